/- Part 1 of a proof: The package variables that the statement's row lists, and wh -/
import Derived.Calls
import Derived.Still
import Derived.Laws.AppendOwn
import Derived.Laws.CopyRow
import Derived.CallsIn
import Derived.RangeFuncCalls
import Derived.OrdersIn
import Derived.TacticsIn
import Derived.RangeFuncNested
import Derived.Laws.Strings
open Nat renaming beq → Qaa, ble → Qad, eq_of_beq_eq_true → Qae, le_refl → Qag, le_of_ble_eq_true → Qah, lt_of_lt_of_le → Qai, lt_or_ge → Qaq, le_trans → Qat, add_mul → Qaw, zero_le → Qaz, zero_mul → QaE, zero_add → QaF
open Option.some renaming injEq → Qab
open Bool renaming and_eq_true → Qac, not_eq_true' → QaH, false_eq_true → QaN
open Go.Result renaming andThen_ok → Qaf
open List renaming flatten_cons → Qaj, getElem?_cons_succ → Qak, getElem?_cons_zero → Qal, append_assoc → Qam, mem_cons_self → Qao, set_cons_succ → Qap, mem_append → Qar, mem_of_getElem? → Qas, length_set → Qav, mem_cons_of_mem → Qax, getElem?_append_right → Qay, replicate_succ → QaA, nodup_append → QaC, cons_append → QaD, set_cons_zero → QaG, getElem?_append_left → QaI, drop_of_length_le → QaJ, take_of_length_le → QaK, take_append_drop → QaL, getElem?_eq_none → QaM, length_take → QaP, nil_append → QaQ
open Option renaming map_eq_some_iff → Qan, map_some → QaB, mem_toList → QaO
open Prod.mk renaming injEq → Qau
set_option linter.unusedVariables false
set_option linter.unusedSimpArgs false
section
namespace Go.Vc
def LG:List (Nat×Value):=[(0,.iface 297 (.agg #[.pointer (some ⟨1,252,none⟩)]))]
end Go.Vc
end
section
namespace Go.Vc
theorem ai.{u} {α:Sort u} {x:α} {Q:Prop} (h:Q):x=x∧Q:=⟨rfl,h⟩
theorem aj {p q:Prop} (h:p) (k:q):p∧q:=⟨h,k⟩
abbrev Bs:=List UInt8
def big:Nat:=1073741824
inductive D where
 |int (k:IntKind) (n:Int)
 |bool (b:Bool)
 |str (s:Bs)
 |list (rows:List (List D))
 |fn (f:FuncId)
 |raw (v:Value)
inductive AV where
 |any
 |d (x:D)
 |nils
 |val (v:Value)
 |agg (cs:List AV)
 |tup (vs:List AV)
 |ptr (id off:Nat)
 |at_ (ds:List D)
 |rptr (id i sz off:Nat)
 |own (id:Nat)
 |nest (id i off m j:Nat)
 |mapr (id:Nat)
 |fn (f:FuncId) (caps:List AV)
 |bfn (f:FuncId) (first:List AV)
 |iface (t:TypeId) (x:AV)
inductive TK where
 |int (k:IntKind)|bool|str
 |slice (e:TypeId)
 |struct (fs:List (Nat×TypeId))
 |map (k e:TypeId)
 |array (n:Nat) (e:TypeId)
 |iface|ptr|func|other|pair
 |del (k:TK)
def TK.base:TK→TK
 | .del k=>k
 |k=>k
def TK.isDel:TK→Bool
 | .del _=>true
 |_=>false
inductive NT where
 |leaf
 |list (t sz:Nat) (fs:List NT)
mutual
def NT.eq:NT→NT→Bool
 | .leaf,.leaf=>true
 | .list t sz fs,.list t' sz' fs'=>Qaa t t'&&Qaa sz sz'&&iM fs fs'
 | .leaf,.list _ _ _=>false
 | .list _ _ _,.leaf=>false
termination_by structural x=>x
def iM:List NT→List NT→Bool
 |[],[]=>true
 |f::fs,g::gs=>NT.eq f g&&iM fs gs
 |[],_::_=>false
 |_::_,[]=>false
termination_by structural x=>x
end
inductive AO where
 |cells (t:TypeId) (cs:List AV)
 |row (t:TypeId) (sz:Nat) (rows:List (List D))
 |tree (t:TypeId) (sz:Nat) (fs:List NT) (rows:List (List D))
 |map (t:TypeId) (tk:TK) (es:List (List D×AV))
structure Heap where
 objs:List (Nat×AO)
 nx:Nat
 lo:Nat
def hp0:Heap:=⟨[],0,0⟩
abbrev Env:=Nat→AV
def Env.put (σ:Env) (k:Nat) (v:AV):Env:=fun j=>bif Qaa j k then v else σ j
def Env.putO (σ:Env) (n:Nat):Option Nat→AV→Env
 |none,_=>σ
 |some k,v=>bif Qad (k+1) n then σ.put k v else σ
def look {α:Type}:List (Nat×α)→Nat→Option α
 |[],_=>none
 |(k,v)::r,j=>bif Qaa j k then some v else look r j
def fq (l:List (Nat×AO)) (i:Nat):Option (List (List D)):=match look l i with
 |some (.row _ _ rows)=>some rows
 |some (.tree _ _ _ rows)=>some rows
 |_=>none
theorem oo {l:List (Nat×AO)} {i:Nat} {rows:List (List D)} (h:fq l i=some rows):(∃t sz,look l i=some (.row t sz rows))∨∃t sz fs,look l i=some (.tree t sz fs rows):=by
 unfold fq at h;split at h
 ·rename_i t sz r e;injection h with h;subst h;exact .inl ⟨t,sz,e⟩
 ·rename_i t sz fs r e;injection h with h;subst h;exact .inr ⟨t,sz,fs,e⟩
 ·cases h
def Env.of (l:List (Nat×AV)):Env:=fun j=>match look l j with|some v=>v|none=> .any
def Env.args (l:List AV):Env:=fun j=>match l[j]? with|some v=>v|none=> .any
mutual
def AV.sub (i:Nat) (b:AV):AV→AV
 | .agg cs=> .agg (bu i b cs)
 | .tup cs=> .tup (bu i b cs)
 | .ptr id off=>bif Qaa id i then .any else .ptr id off
 | .rptr id k sz off=>bif Qaa id i then .any else .rptr id k sz off
 | .own id=>bif Qaa id i then b else .own id
 | .nest id k off m j=>bif Qaa id i then .any else .nest id k off m j
 | .mapr id=>bif Qaa id i then .any else .mapr id
 | .fn f cs=> .fn f (bu i b cs)
 | .bfn f cs=> .bfn f (bu i b cs)
 | .iface t x=> .iface t (AV.sub i b x)
 | .any=> .any
 | .d x=> .d x
 | .nils=> .nils
 | .val v=> .val v
 | .at_ ds=> .at_ ds
termination_by structural x=>x
def bu (i:Nat) (b:AV):List AV→List AV
 |[]=>[]
 |c::cs=>AV.sub i b c::bu i b cs
termination_by structural x=>x
end
mutual
def AV.view (l:List (Nat×AO)):AV→AV
 | .own id=>match fq l id with
   |some rows=> .d (.list rows)
   |none=> .any
 | .nest _ _ _ _ _=> .any
 | .nils=> .d (.list [])
 | .agg cs=> .agg (aU l cs)
 | .tup cs=> .tup (aU l cs)
 | .iface t x=> .iface t (AV.view l x)
 | .any=> .any
 | .d x=> .d x
 | .val (.bool b)=> .d (.bool b)
 | .val v=> .val v
 | .ptr _ _=> .any
 | .rptr _ _ _ _=> .any
 | .at_ ds=> .at_ ds
 | .mapr _=> .any
 | .fn f cs=> .fn f (aU l cs)
 | .bfn f cs=> .bfn f (aU l cs)
termination_by structural x=>x
def aU (l:List (Nat×AO)):List AV→List AV
 |[]=>[]
 |c::cs=>AV.view l c::aU l cs
termination_by structural x=>x
end
mutual
def bZ:AV→List Nat
 | .own id=>[id]
 | .agg cs=>aF cs
 | .tup cs=>aF cs
 | .iface _ x=>bZ x
 | .fn _ cs=>aF cs
 | .bfn _ cs=>aF cs
 | .nest _ _ _ _ _=>[]| .any=>[]| .d _=>[]| .nils=>[]| .val _=>[]| .ptr _ _=>[]| .rptr _ _ _ _=>[]| .at_ _=>[]| .mapr _=>[]
termination_by structural x=>x
def aF:List AV→List Nat
 |[]=>[]
 |c::cs=>bZ c++aF cs
termination_by structural x=>x
end
mutual
def AV.lt (n:Nat):AV→Bool
 | .own id=>Qad (id+1) n
 | .nest id _ _ _ _=>Qad (id+1) n
 | .ptr id _=>Qad (id+1) n
 | .rptr id _ _ _=>Qad (id+1) n
 | .mapr id=>Qad (id+1) n
 | .agg cs=>ba n cs
 | .tup cs=>ba n cs
 | .fn _ cs=>ba n cs
 | .bfn _ cs=>ba n cs
 | .iface _ x=>AV.lt n x
 | .any=>true| .d _=>true| .nils=>true| .val _=>true| .at_ _=>true
termination_by structural x=>x
def ba (n:Nat):List AV→Bool
 |[]=>true
 |c::cs=>AV.lt n c&&ba n cs
termination_by structural x=>x
end
mutual
def AV.noOwn:AV→AV
 | .agg cs=> .agg (aT cs)
 | .tup cs=> .tup (aT cs)
 | .ptr id off=> .ptr id off
 | .rptr _ _ _ _=> .any
 | .own _=> .any
 | .nest _ _ _ _ _=> .any
 | .mapr id=> .mapr id
 | .fn f cs=> .fn f (aT cs)
 | .bfn f cs=> .bfn f (aT cs)
 | .iface t x=> .iface t (AV.noOwn x)
 | .any=> .any
 | .d x=> .d x
 | .nils=> .nils
 | .val v=> .val v
 | .at_ ds=> .at_ ds
termination_by structural x=>x
def aT:List AV→List AV
 |[]=>[]
 |c::cs=>AV.noOwn c::aT cs
termination_by structural x=>x
end
def dsOf:List AV→Option (List D)
 |[]=>some []
 | .d x::r=>(dsOf r).map (x:: ·)
 | .nils::r=>(dsOf r).map (.list []:: ·)
 | .fn f []::r=>(dsOf r).map (.fn f:: ·)
 |_=>none
def fe (l:List (Nat×AO)):AV→AV
 | .own id=>match fq l id with
   |some rows=> .d (.list rows)
   |none=> .any
 | .val (.bool b)=> .d (.bool b)
 |a=>a
mutual
def ca (l:List (Nat×AO)):AV→AV
 | .own id=>match fq l id with
   |some rows=> .d (.list rows)
   |none=> .any
 | .nest _ _ _ _ _=> .any
 | .ptr id off=>match look l id with
   |some (.cells _ cs)=>match dsOf ((cs.drop off).map (fe l)) with
    |some (x::r)=> .at_ (x::r)
    |_=> .any
   |_=> .any
 | .nils=> .d (.list [])
 | .agg cs=> .agg (aN l cs)
 | .tup cs=> .tup (aN l cs)
 | .iface t x=> .iface t (ca l x)
 | .any=> .any
 | .d x=> .d x
 | .val (.bool b)=> .d (.bool b)
 | .val v=> .val v
 | .rptr _ _ _ _=> .any
 | .at_ ds=> .at_ ds
 | .mapr _=> .any
 | .fn f cs=> .fn f (aN l cs)
 | .bfn f cs=> .bfn f (aN l cs)
termination_by structural x=>x
def aN (l:List (Nat×AO)):List AV→List AV
 |[]=>[]
 |c::cs=>ca l c::aN l cs
termination_by structural x=>x
end
mutual
def dz (l:List (Nat×AO)) (g:Nat→Option Addr×Nat):AV→AV
 | .own id=>match look l id with
   |some (.row _ _ rows)=> .val (.slice (g id).1 rows.length (g id).2)
   |some (.tree _ _ _ rows)=> .val (.slice (g id).1 rows.length (g id).2)
   |_=> .any
 | .nest _ _ _ _ _=> .any
 | .agg cs=> .agg (bw l g cs)
 | .tup cs=> .tup (bw l g cs)
 | .nils=> .d (.list [])
 | .any=> .any
 | .d x=> .d x
 | .val (.bool b)=> .d (.bool b)
 | .val v=> .val v
 | .at_ ds=> .at_ ds
 | .iface _ _=> .any
 | .ptr _ _=> .any
 | .rptr _ _ _ _=> .any
 | .mapr _=> .any
 | .fn _ _=> .any
 | .bfn _ _=> .any
termination_by structural x=>x
def bw (l:List (Nat×AO)) (g:Nat→Option Addr×Nat):List AV→List AV
 |[]=>[]
 |c::cs=>dz l g c::bw l g cs
termination_by structural x=>x
end
mutual
def dv (k:Nat):AV→AV
 | .own id=> .own (id+k)
 | .nest _ _ _ _ _=> .any
 | .agg cs=> .agg (bO k cs)
 | .tup cs=> .tup (bO k cs)
 | .nils=> .nils
 | .any=> .any
 | .d x=> .d x
 | .val v=> .val v
 | .at_ ds=> .at_ ds
 | .iface _ _=> .any
 | .ptr _ _=> .any
 | .rptr _ _ _ _=> .any
 | .mapr _=> .any
 | .fn _ _=> .any
 | .bfn _ _=> .any
termination_by structural x=>x
def bO (k:Nat):List AV→List AV
 |[]=>[]
 |c::cs=>dv k c::bO k cs
termination_by structural x=>x
end
def IW (k:Nat) (l0:List (Nat×AO)):List (Nat×AO)→List (Nat×AO)→List (Nat×AO)
 |[],l=>l
 |(i,_)::r,l=>match look l0 i with
  |some (.row t sz rows)=>(i+k,.row t sz rows)::IW k l0 r l
  |some (.tree t sz fs rows)=>(i+k,.tree t sz fs rows)::IW k l0 r l
  |_=>IW k l0 r l
def Heap.join (h h':Heap):Heap:=⟨IW h.nx h'.objs h'.objs h.objs,h'.nx+h.nx,h.lo⟩
def BF (i:Nat) (b:AV):List (List D×AV)→List (List D×AV)
 |[]=>[]
 |(k,a)::r=>(k,AV.sub i b a)::BF i b r
def Fv (n:Nat):List (List D×AV)→Prop
 |[]=>True
 |(_,a)::r=>a.lt n=true∧Fv n r
def AO.sub (i:Nat) (b:AV):AO→AO
 | .cells t cs=> .cells t (bu i b cs)
 | .row t sz rows=> .row t sz rows
 | .tree t sz fs rows=> .tree t sz fs rows
 | .map t tk es=> .map t tk (BF i b es)
def vh (i:Nat) (b:AV):List (Nat×AO)→List (Nat×AO)
 |[]=>[]
 |(k,o)::r=>(k,o.sub i b)::vh i b r
def del {α:Type} (i:Nat):List (Nat×α)→List (Nat×α)
 |[]=>[]
 |(k,o)::r=>bif Qaa k i then del i r else (k,o)::del i r
def gm (i:Nat) (x:AO):List (Nat×AO)→List (Nat×AO)
 |[]=>[]
 |(k,o)::r=>bif Qaa k i then (k,x)::r else (k,o)::gm i x r
def Env.sub (i:Nat) (b:AV) (σ:Env):Env:=fun k=>AV.sub i b (σ k)
def Env.subs:List (Nat×AV)→Env→Env
 |[],σ=>σ
 |(i,b)::m,σ=>Env.subs m (Env.sub i b σ)
def uH:List (Nat×AV)→List AV→List AV
 |[],as=>as
 |(i,b)::m,as=>uH m (bu i b as)
inductive Rn where
 |sub (m:List (Nat×AV))
 |drop
 |tsub (ks:List Nat)
 |mv (a b:Nat)
mutual
def AV.map (f:Nat→Option Nat):AV→AV
 | .ptr id off=>match f id with|some j=> .ptr j off|none=> .any
 | .rptr id i sz off=>match f id with|some j=> .rptr j i sz off|none=> .any
 | .own id=>match f id with|some j=> .own j|none=> .any
 | .nest _ _ _ _ _=> .any
 | .mapr id=>match f id with|some j=> .mapr j|none=> .any
 | .agg cs=> .agg (aG f cs)
 | .tup cs=> .tup (aG f cs)
 | .fn g cs=> .fn g (aG f cs)
 | .bfn g cs=> .bfn g (aG f cs)
 | .iface t x=> .iface t (AV.map f x)
 | .any=> .any
 | .d x=> .d x
 | .nils=> .nils
 | .val v=> .val v
 | .at_ ds=> .at_ ds
termination_by structural x=>x
def aG (f:Nat→Option Nat):List AV→List AV
 |[]=>[]
 |c::cs=>AV.map f c::aG f cs
termination_by structural x=>x
end
def eC (f:Nat→Option Nat):List (List D×AV)→List (List D×AV)
 |[]=>[]
 |(k,a)::r=>(k,AV.map f a)::eC f r
def AO.map' (f:Nat→Option Nat):AO→AO
 | .cells t cs=> .cells t (aG f cs)
 | .row t sz rows=> .row t sz rows
 | .tree t sz fs rows=> .tree t sz fs rows
 | .map t tk es=> .map t tk (eC f es)
def jK (ks:List Nat) (id:Nat):Option Nat:=bif ks.any (Qaa id) then none else some id
def AV.unn (ks:List Nat) (a:AV):AV:=AV.map (jK ks) a
def AO.unn (ks:List Nat) (o:AO):AO:=AO.map' (jK ks) o
def md (ks:List Nat):List (Nat×AO)→List (Nat×AO)
 |[]=>[]
 |(k,o)::r=>bif ks.any (Qaa k) then md ks r else (k,o.unn ks)::md ks r
def yi (a b i:Nat):Option Nat:=bif Qaa i a then some b else bif Qaa i b then none else some i
def Jf (a b:Nat):List (Nat×AO)→List (Nat×AO)
 |[]=>[]
 |(k,o)::r=>match yi a b k with
  |some i=>(i,o.map' (yi a b))::Jf a b r
  |none=>Jf a b r
def Env.ren:Rn→Env→Env
 | .sub m,σ=>Env.subs m σ
 | .drop,σ=>fun k=>AV.noOwn (σ k)
 | .tsub ks,σ=>fun k=>AV.unn ks (σ k)
 | .mv a b,σ=>fun k=>AV.map (yi a b) (σ k)
def Heap.new (h:Heap) (o:AO):Heap:=⟨(h.nx,o)::h.objs,h.nx+1,h.lo⟩
def Heap.set (h:Heap) (i:Nat) (o:AO):Heap:=⟨gm i o h.objs,h.nx,h.lo⟩
def pubs:List Nat→List (Nat×AO)→List (Nat×AO)×List (Nat×AV)
 |[],l=>(l,[])
 |i::is,l=>match fq l i with
  |some rows=>match pubs is (vh i (.d (.list rows)) (del i l)) with
   |(l',m)=>(l',(i,.d (.list rows))::m)
  |none=>pubs is l
def Cn:List Nat→Nat→Nat→Option Nat
 |[],_,_=>none
 |i::is,n,k=>bif Qaa k i then some n else Cn is (n+1) k
def ly (ids:List Nat) (k:Nat):Option Nat:=Cn ids 0 k
def iQ (ids:List Nat) (nx:Nat) (j:Nat):Option Nat:=match ids[j]? with|some i=>some i|none=>some (j+nx)
def nR (ids:List Nat) (l:List (Nat×AO)):List Nat→Nat→Option (List (Nat×AO))
 |[],_=>some []
 |i::is,n=>match look l i with
  |some o=>match nR ids l is (n+1) with
   |some r=>some ((n,o.map' (ly ids))::r)
   |none=>none
  |none=>none
def j4 (ids:List Nat) (h:Heap):Option Heap:=match nR ids h.objs ids 0 with
 |some l=>some ⟨l,ids.length,ids.length⟩
 |none=>none
def CA (ids:List Nat) (nx:Nat) (rest:List (Nat×AO)):List (Nat×AO)→List (Nat×AO)
 |[]=>rest
 |(j,o)::r=>match iQ ids nx j with
  |some i=>(i,o.map' (iQ ids nx))::CA ids nx rest r
  |none=>CA ids nx rest r
def Fg (ks:List Nat):List (Nat×AO)→List (Nat×AO)
 |[]=>[]
 |(k,o)::r=>bif ks.any (Qaa k) then Fg ks r else (k,o.unn [])::Fg ks r
def d9 (ids:List Nat) (h h':Heap):Heap:=⟨CA ids h.nx (Fg ids h.objs) h'.objs,h'.nx+h.nx,h.lo⟩
def gu:List Nat→Bool
 |[]=>true
 |i::is=> !(is.any (Qaa i))&&gu is
def nl:List NT→Nat
 |[]=>0
 | .leaf::fs=>nl fs
 | .list _ _ _::fs=>nl fs+1
def takeC (l:List (Nat×AO)):NT→AV→Option (D×List Nat)
 | .leaf,a=>match (match a with| .val (.bool b)=>AV.d (.bool b)|a=>a) with
   | .d (.int k n)=>some (.int k n,[])
   | .d (.bool b)=>some (.bool b,[])
   | .d (.str x)=>some (.str x,[])
   |_=>none
 | .list t sz fs,a=>match a with
   | .nils=>some (.list [],[])
   | .own id=>match look l id with
     |some (.tree t' sz' fs' rows)=>bif Qaa t t'&&Qaa sz sz'&&iM fs fs' then some (.list rows,[id]) else none
     |_=>none
   |_=>none
def qw (l:List (Nat×AO)):List NT→List AV→Option (List D×List Nat)
 |[],[]=>some ([],[])
 |f::fs,a::as=>match takeC l f a with
  |some (d,i)=>match qw l fs as with
   |some (ds,is)=>some (d::ds,i++is)
   |none=>none
  |none=>none
 |[],_::_=>none
 |_::_,[]=>none
def eI (id i m:Nat):List NT→List D→Nat→Nat→List AV
 | .leaf::fs,d::ds,o,j=> .d d::eI id i m fs ds (o+1) j
 | .list _ _ _::fs,_::ds,o,j=> .nest id i o m j::eI id i m fs ds (o+1) (j+1)
 |[],_,_,_=>[]
 |_::_,[],_,_=>[]
def B9:List NT→Bool
 |[]=>true
 | .leaf::fs=>B9 fs
 | .list _ sz gs::fs=>Qaa gs.length sz&&Qad 1 sz&&B9 fs
def w8:List NT→List AV→Bool
 |[],[]=>true
 | .leaf::fs,.d (.int _ _)::as=>w8 fs as
 | .leaf::fs,.d (.bool _)::as=>w8 fs as
 | .leaf::fs,.d (.str _)::as=>w8 fs as
 | .list _ _ _::fs,.nils::as=>w8 fs as
 |_,_=>false
def D.flat:D→Bool
 | .int _ _=>true
 | .bool _=>true
 | .str _=>true
 |_=>false
def gM (sz:Nat) (r:List D):Prop:=r.length=sz∧∀d∈r,d.flat=true
def bk:List NT→Bool
 |[]=>true
 | .leaf::fs=>bk fs
 | .list _ _ _::_=>false
mutual
def it:AV→Bool
 | .own _=>true
 | .d (.int _ _)=>true
 | .d (.bool _)=>true
 | .d (.str _)=>true
 | .val (.bool _)=>true
 | .nils=>true
 | .agg cs=>dE cs
 | .tup cs=>dE cs
 |_=>false
termination_by structural x=>x
def dE:List AV→Bool
 |[]=>true
 |c::cs=>it c&&dE cs
termination_by structural x=>x
end
def mQ:List (Nat×AO)→Bool
 |[]=>true
 |(_,.tree _ _ _ _)::r=>mQ r
 |_::_=>false
def w7:AV→Bool
 | .nest _ _ _ _ _=>true
 |_=>false
def kh:List AV→Option ((Nat×Nat×Nat×Nat×Nat)×List AV)
 |[]=>none
 | .nest id i off m j::as=>bif as.any w7 then none else some ((id,i,off,m,j),.own 0::aG (fun _=>none) as)
 |a::as=>match kh as with
  |some (p,as')=>some (p,AV.map (fun _=>none) a::as')
  |none=>none
mutual
def AV.mapA (f:Nat→Option Nat):AV→AV
 | .ptr id off=>match f id with|some j=> .ptr j off|none=> .any
 | .rptr id i sz off=>match f id with|some j=> .rptr j i sz off|none=> .any
 | .own id=>match f id with|some j=> .own j|none=> .any
 | .nest id i off m k=>match f id with|some j=> .nest j i off m k|none=> .any
 | .mapr id=>match f id with|some j=> .mapr j|none=> .any
 | .agg cs=> .agg (bb f cs)
 | .tup cs=> .tup (bb f cs)
 | .fn g cs=> .fn g (bb f cs)
 | .bfn g cs=> .bfn g (bb f cs)
 | .iface t x=> .iface t (AV.mapA f x)
 | .any=> .any
 | .d x=> .d x
 | .nils=> .nils
 | .val v=> .val v
 | .at_ ds=> .at_ ds
termination_by structural x=>x
def bb (f:Nat→Option Nat):List AV→List AV
 |[]=>[]
 |c::cs=>AV.mapA f c::bb f cs
termination_by structural x=>x
end
def Hx (l:List (Nat×AO)) (id i off m j:Nat) (rn:List (List D)):Prop:=match look l id with
 |some (.tree _ _ fs rows)=>(Qaa m (nl fs)&&Qaa j (nl (fs.take off))&&(match fs[off]? with|some (.list _ _ _)=>true|_=>false))=true∧∃row,rows[i]? =some row∧row[off]? =some (.list rn)
 |_=>False
def DR (l:List (Nat×AO)) (x y:AV):Prop:=match x with
 | .nest id i off m j=>∃rn,y= .d (.list rn)∧Hx l id i off m j rn
 |x=>y=ca l x
def CL (l:List (Nat×AO)):List AV→List AV→Prop
 |[],y=>y=[]
 |c::cs,y=>∃d ds,y=d::ds∧DR l c d∧CL l cs ds
def JE (l:List (Nat×AO)) (x y:AV):Prop:=match x with
 | .agg cs=>∃ds,y= .agg ds∧CL l cs ds
 |x=>DR l x y
def Ho (l:List (Nat×AO)):List AV→List AV→Prop
 |[],y=>y=[]
 |c::cs,y=>∃d ds,y=d::ds∧JE l c d∧Ho l cs ds
structure TI where
 kind:TK
 size:Nat
 bytes:Nat
 zero:List AV
 meths:List (String×FuncId):=[]
 pair:Bool:=false
 nts:List NT:=[]
def TI.key (t:TI):TK:=bif t.pair then .pair else t.kind
def TI.isAgg (t:TI):Bool:=match t.kind with| .struct _=>true| .array _ _=>true|_=>false
def Li:Value→AV
 | .int k n=> .d (.int k n)
 | .string s=>match s.data.toList with
   |[]=> .d (.str [])
   |c::r=>bif Qad (c::r).length big then .d (.str (c::r)) else .any
 | .slice none 0 0=> .nils
 |v=> .val v
def ev (σ:Env):Operand→AV
 | .tmp t=>σ t
 | .const v=>Li v
 | .func f=> .fn f []
 | .global _=> .any
def mj:AV→AV
 | .val (.bool b)=> .d (.bool b)
 |a=>a
def yc (t:Bool) (a b:AV):AV:=
 match mj a,mj b with
 | .d (.bool x),.d (.bool y)=> .d (.bool (bif t then x else y))
 |a,b=>bif t then a else b
def Hi (op:BinOp) (k:IntKind) (a b:Int):Int:=match op with
 | .and=>k.wrap ((BitVec.ofInt k.bits a)&&& (BitVec.ofInt k.bits b)).toNat
 |_=>k.wrap ((BitVec.ofInt k.bits a)|||(BitVec.ofInt k.bits b)).toNat
def CR (op:BinOp) (k:IntKind) (a b:Int):Option D:=
 match op with
 | .add=>some (.int k (k.wrap (a+b)))
 | .sub=>some (.int k (k.wrap (a - b)))
 | .mul=>some (.int k (k.wrap (a*b)))
 | .and=>some (.int k (Hi op k a b))
 | .or=>some (.int k (Hi op k a b))
 | .eql=>some (.bool (a==b))
 | .neq=>some (.bool (a !=b))
 | .lss=>some (.bool (decide (a<b)))
 | .leq=>some (.bool (decide (a≤b)))
 | .gtr=>some (.bool (decide (a>b)))
 | .geq=>some (.bool (decide (a≥b)))
 |_=>none
def CQ (op:BinOp) (a b:Bs):Option D:=
 match op with
 | .eql=>some (.bool (a==b))
 | .neq=>some (.bool (!(a==b)))
 | .lss=>some (.bool (Op.bytesLess a b))
 | .leq=>some (.bool (Op.bytesLess a b||a==b))
 | .gtr=>some (.bool (!(Op.bytesLess a b||a==b)))
 | .geq=>some (.bool (!(Op.bytesLess a b)))
 |_=>none
def fv:IntKind→IntKind→Bool
 | .i8,.i8| .i16,.i16| .i32,.i32| .i64,.i64| .u8,.u8| .u16,.u16| .u32,.u32| .u64,.u64=>true
 |_,_=>false
def KX (T:List (Nat×TI)) (t:TypeId) (op:BinOp):AV→AV→Option D
 | .d (.int k a),.d (.int k' b)=>bif fv k k' then CR op k a b else none
 | .d (.str a),.d (.str b)=>CQ op a b
 | .d (.bool a),.d (.bool b)=>match look T t with
   |some ti=>match ti.kind with
    | .bool=>match op with
      | .eql=>some (.bool (a==b))
      | .neq=>some (.bool (!(a==b)))
      |_=>none
    |_=>none
   |none=>none
 |_,_=>none
def o6 (T:List (Nat×TI)) (t:TypeId) (op:BinOp) (x:AV):Option D:=match look T t with
 |some ti=>match ti.kind,op,x with
  | .iface,.eql,.iface _ _=>some (.bool false)
  | .iface,.neq,.iface _ _=>some (.bool true)
  | .iface,.eql,.val .nilIface=>some (.bool true)
  | .iface,.neq,.val .nilIface=>some (.bool false)
  |_,_,_=>none
 |none=>none
def kF (ti:TI) (cs:List AV):Option AV:=
 bif ti.isAgg then (bif Qad ti.size cs.length then some (.agg (cs.take ti.size)) else none) else cs.head?
def qH (ti:TI) (cs:List D):Option AV:=
 bif ti.isAgg then (bif Qad ti.size cs.length then some (.agg ((cs.take ti.size).map .d)) else none) else (cs.head?).map .d
def AV.one:AV→Bool
 | .d _| .nils| .ptr _ _| .at_ _| .rptr _ _ _ _| .own _| .nest _ _ _ _ _| .mapr _| .fn _ _| .bfn _ _| .iface _ _=>true
 | .val v=>v.oneCell'
 |_=>false
def oneL:List AV→Bool
 |[]=>true
 |c::cs=>c.one&&oneL cs
def cellsOf (ti:TI):AV→Option (List AV)
 | .agg cs=>bif ti.isAgg then (bif Qaa cs.length ti.size&&oneL cs then some cs else none) else none
 |a=>bif ti.isAgg then none else bif a.one then some [a] else none
def over (cs:List AV) (off:Nat) (new:List AV):List AV:=cs.take off++new++cs.drop (off+new.length)
def dW (cs:List D) (off:Nat) (new:List D):List D:=cs.take off++new++cs.drop (off+new.length)
def Lx:D→Option Int
 | .int _ n=>some n
 |_=>none
abbrev LS:=AV×Heap×Rn
noncomputable def GX {β:Type} (l:List AV):(List AV→β)→β:=
 List.rec (motive:=fun _=>(List AV→β)→β) (fun K=>K []) (fun a _ ih K=>ih fun l=>K (a::l)) l
theorem Fb {β:Type} {l:List AV}:∀{K:List AV→β},GX l K=K l:=by
 induction l with
 |nil=>intro K;rfl
 |cons a l ih=>intro K;exact ih (K:=fun l=>K (a::l))
noncomputable def mH (fs:List (Nat×TypeId)) (T:List (Nat×TI)):List AV→List (Nat×AV)→Option (List AV)
 |cs,[]=>some cs
 |cs,(i,x)::r=>match fs[i]? with
  |some (off,t)=>match look T t with
   |some ti=>match cellsOf ti x with
    |some new=>bif Qad (off+new.length) cs.length then GX (over cs off new) fun cs'=>mH fs T cs' r else none
    |none=>none
   |none=>none
  |none=>none
def It (sz e n:Nat):List (Nat×TypeId):=(List.range n).map fun i=>(i*sz,e)
def pQ (ti:TI) (l:List (Nat×AO)):Nat→List (Nat×AV)→Option (List (List D))
 |_,[]=>some []
 |n,(i,x)::r=>bif Qaa i n then match cellsOf ti (x.view l) with
   |some cs=>match dsOf cs with
    |some ds=>(pQ ti l (n+1) r).map (ds:: ·)
    |none=>none
   |none=>none
  else none
def kW (ti:TI) (l:List (Nat×AO)):Nat→List (Nat×AV)→Option (List (List D)×List Nat)
 |_,[]=>match ti.nts with|[]=>none|_::_=>some ([],[])
 |n,(i,x)::r=>bif Qaa i n then match cellsOf ti x with
   |some cs=>match qw l ti.nts cs with
    |some (ds,ks)=>match kW ti l (n+1) r with
     |some (rows,ks')=>some (ds::rows,ks++ks')
     |none=>none
    |none=>none
   |none=>none
  else none
def TI.obj (ti:TI) (e:TypeId) (rows:List (List D)):AO:=match ti.nts with
 |[]=> .row e ti.size rows
 |f::fs=> .tree e ti.size (f::fs) rows
def TI.fits (ti:TI):Bool:=match ti.nts with
 |[]=>true
 |f::fs=>w8 (f::fs) ti.zero&&Qaa (f::fs).length ti.size
noncomputable def bB (T:List (Nat×TI)) (ρ:Operand→AV) (h:Heap):Op→Option LS
 | .move x=>some (ρ x,h,.sub [])
 | .assign x=>some (ρ x,h,.sub [])
 | .pick c a b=>match ρ c with
   | .d (.bool t)=>some (yc t (ρ a) (ρ b),h,.sub [])
   | .val (.bool t)=>some (bif t then ρ a else ρ b,h,.sub [])
   |_=>none
 | .box t x=>match look T t with
   |some ti=>match cellsOf ti (ρ x) with
    |some cs=>some (.ptr h.nx 0,h.new (.cells t cs),.sub [])
    |none=>none
   |none=>none
 | .alloc t=>match look T t with
   |some ti=>some (.ptr h.nx 0,h.new (.cells t ti.zero),.sub [])
   |none=>none
 | .build t parts=>match look T t with
   |some ti=>match ti.kind with
    | .struct fs=>bif fs.all (fun p=>(look T p.2).isSome) then (mH fs T ti.zero (parts.toList.map fun p=>(p.1,ρ p.2))).map fun cs=>(.agg cs,h,.sub []) else none
    | .array n e=>match look T e with
      |some te=>(mH (It te.size e n) T ti.zero (parts.toList.map fun p=>(p.1,ρ p.2))).map fun cs=>(.agg cs,h,.sub [])
      |none=>none
    |_=>none
   |none=>none
 | .buildSlice t len parts=>match look T t with
   |some ti=>match ti.kind with
    | .slice e=>match look T e with
      |some te=>bif Qaa len 0 then (bif Qad 1 te.size&&parts.toList.isEmpty&&te.fits then some (.own h.nx,h.new (te.obj e []),.sub []) else none)
       else (bif Qaa parts.toList.length len&&Qad (len*te.size) 16777216&&Qad 1 te.size then match kW te h.objs 0 (parts.toList.map fun p=>(p.1,ρ p.2)) with
        |some (rows,ks)=>bif gu ks then some (.own h.nx,⟨(h.nx,.tree e te.size te.nts rows)::md ks h.objs,h.nx+1,h.lo⟩,.tsub ks) else none
        |none=>match pQ te h.objs 0 (parts.toList.map fun p=>(p.1,ρ p.2)) with
        |some rows=>match pubs (aF (parts.toList.map fun p=>ρ p.2)) h.objs with
         |(l,m)=>some (.d (.list rows),⟨l,h.nx,h.lo⟩,.sub m)
        |none=>none else none)
      |none=>none
    |_=>none
   |none=>none
 | .load t a=>match look T t with
   |some ti=>match ρ a with
    | .ptr id off=>match look h.objs id with
      |some (.cells _ cs)=>(kF ti (cs.drop off)).map (·,h,.sub [])
      |_=>none
    | .at_ ds=>(qH ti ds).map (·,h,.sub [])
    | .rptr id i sz off=>match look h.objs id with
      |some (.row _ sz' rows)=>bif Qaa sz sz' then (match rows[i]? with
       |some r=>(qH ti (r.drop off)).map (·,h,.sub [])
       |none=>none) else none
      |_=>none
    |_=>none
   |none=>none
 | .fieldAddr s x f=>match look T s with
   |some ti=>match ti.kind with
    | .struct fs=>match fs[f]? with
      |some (off,t)=>match look T t with
       |some tf=>bif Qaa tf.size 0 then none else match ρ x with
        | .ptr id o=>some (.ptr id (o+off),h,.sub [])
        | .at_ ds=>match ds.drop off with
          |[]=>none
          |x::r=>some (.at_ (x::r),h,.sub [])
        | .rptr id i sz o=>some (.rptr id i sz (o+off),h,.sub [])
        |_=>none
       |none=>none
      |none=>none
    |_=>none
   |none=>none
 | .field s x f=>match look T s with
   |some ti=>match ti.kind with
    | .struct fs=>match fs[f]? with
      |some (off,t)=>match look T t,ρ x with
       |some tf,.agg cs=>(kF tf (cs.drop off)).map (·,h,.sub [])
       |_,_=>none
      |none=>none
    |_=>none
   |none=>none
 | .binOp op t x y _=>match y with
   | .const .nilIface=>(o6 T t op (ρ x)).map (.d ·,h,.sub [])
   |_=>(KX T t op (mj (ρ x)) (mj (ρ y))).map (.d ·,h,.sub [])
 | .unOp .not _ x=>match ρ x with
   | .d (.bool b)=>some (.d (.bool (!b)),h,.sub [])
   | .val (.bool b)=>some (.val (.bool (!b)),h,.sub [])
   |_=>none
 | .extract x i=>match ρ x with
   | .tup vs=>(vs[i]?).map (·,h,.sub [])
   |_=>none
 | .nilCheck x=>match ρ x with
   | .at_ ds=>some (.at_ ds,h,.sub [])
   | .ptr id off=>some (.ptr id off,h,.sub [])
   | .rptr id i sz off=>some (.rptr id i sz off,h,.sub [])
   |_=>none
 | .makeFunc (.func f) first caps=>bif first.toList.isEmpty then some (.fn f (caps.toList.map ρ),h,.sub []) else bif caps.toList.isEmpty then some (.bfn f (first.toList.map ρ),h,.sub []) else none
 | .makeInterface t x=>match look T t with
   |some ti=>match ti.kind with
    | .iface=>none
    |_=>some (.iface t (ρ x),h,.sub [])
   |none=>none
 | .makeMap t r=>match look T t,r with
   |some ti,none=>match ti.kind with
    | .map kt _=>match look T kt with
      |some tk=>some (.mapr h.nx,h.new (.map t tk.key []),.sub [])
      |none=>none
    |_=>none
   |_,_=>none
 | .convert src dst x=>match look T src,look T dst with
   |some _,some ti=>match ti.kind,ρ x with
    | .int k,.d (.int _ n)=>some (.d (.int k (k.wrap n)),h,.sub [])
    |_,_=>none
   |_,_=>none
 |_=>none
def AV.scalar:AV→Bool
 | .d (.int _ _)=>true
 | .d (.bool _)=>true
 | .d (.str _)=>true
 |_=>false
def nt:AV→Bool
 | .agg cs=>cs.all AV.scalar
 |r=>r.scalar
noncomputable def fX (n:Nat):(Nat→Prop)→Prop:=
 Nat.rec (motive:=fun _=>(Nat→Prop)→Prop) (fun K=>K 0) (fun k _ K=>K (k+1)) n
theorem forceN_iff {n:Nat} {K:Nat→Prop}:fX n K↔K n:=by cases n<;>exact Iff.rfl
noncomputable def fW (r:AV) (K:AV→Prop):Prop:=match r with
 | .any=>K .any
 | .d x=>K (.d x)
 | .nils=>K .nils
 | .val v=>K (.val v)
 | .agg cs=>K (.agg cs)
 | .tup vs=>K (.tup vs)
 | .ptr id off=>fX id fun id=>K (.ptr id off)
 | .at_ ds=>K (.at_ ds)
 | .rptr id i sz off=>fX id fun id=>K (.rptr id i sz off)
 | .own id=>fX id fun id=>K (.own id)
 | .nest id i off m j=>fX id fun id=>K (.nest id i off m j)
 | .mapr id=>fX id fun id=>K (.mapr id)
 | .fn f cs=>K (.fn f cs)
 | .bfn f cs=>K (.bfn f cs)
 | .iface t x=>K (.iface t x)
theorem forceV_iff {r:AV} {K:AV→Prop}:fW r K↔K r:=by cases r<;>first|exact Iff.rfl|(simp only[fW];exact forceN_iff)
noncomputable def yH (l:List AV):(List AV→Prop)→Prop:=
 List.rec (motive:=fun _=>(List AV→Prop)→Prop) (fun K=>K []) (fun a _ ih K=>fW a fun a=>ih fun l=>K (a::l)) l
theorem AY {l:List AV}:∀{K:List AV→Prop},yH l K↔K l:=by
 induction l with
 |nil=>exact Iff.rfl
 |cons a l ih=>intro K;exact (forceV_iff (K:=fun a=>yH l fun l=>K (a::l))).trans (ih (K:=fun l=>K (a::l)))
noncomputable def rP (l:List D):(List D→Prop)→Prop:=
 List.rec (motive:=fun _=>(List D→Prop)→Prop) (fun K=>K []) (fun a _ ih K=>ih fun l=>K (a::l)) l
theorem forceDs_iff {l:List D}:∀{K:List D→Prop},rP l K↔K l:=by
 induction l with
 |nil=>exact Iff.rfl
 |cons a l ih=>intro K;exact ih (K:=fun l=>K (a::l))
noncomputable def uh (o:AO) (K:AO→Prop):Prop:=match o with
 | .cells t cs=>yH cs fun cs=>K (.cells t cs)
 | .row t sz rows=>K (.row t sz rows)
 | .tree t sz fs rows=>K (.tree t sz fs rows)
 | .map t tk es=>K (.map t tk es)
theorem yG {o:AO} {K:AO→Prop}:uh o K↔K o:=by
 cases o with
 |cells t cs=>exact AY
 |row t sz rows=>exact Iff.rfl
 |tree t sz fs rows=>exact Iff.rfl
 |map t tk es=>exact Iff.rfl
noncomputable def pf (l:List (Nat×AO)):(List (Nat×AO)→Prop)→Prop:=
 List.rec (motive:=fun _=>(List (Nat×AO)→Prop)→Prop) (fun K=>K []) (fun p _ ih K=>match p with|(k,o)=>fX k fun k=>uh o fun o=>ih fun l=>K ((k,o)::l)) l
theorem forceOs_iff {l:List (Nat×AO)}:∀{K:List (Nat×AO)→Prop},pf l K↔K l:=by
 induction l with
 |nil=>exact Iff.rfl
 |cons p l ih=>obtain ⟨k,o⟩:=p;intro K;exact (forceN_iff (K:=fun k=>uh o fun o=>pf l fun l=>K ((k,o)::l))).trans ((yG (K:=fun o=>pf l fun l=>K ((k,o)::l))).trans (ih (K:=fun l=>K ((k,o)::l))))
noncomputable def cq (h:Heap) (K:Heap→Prop):Prop:=match h with|⟨objs,nx,lo⟩=>pf objs fun objs=>fX nx fun nx=>fX lo fun lo=>K ⟨objs,nx,lo⟩
theorem forceH_iff {h:Heap} {K:Heap→Prop}:cq h K↔K h:=(forceOs_iff (K:=fun objs=>fX h.nx fun nx=>fX h.lo fun lo=>K ⟨objs,nx,lo⟩)).trans ((forceN_iff (K:=fun nx=>fX h.lo fun lo=>K ⟨h.objs,nx,lo⟩)).trans forceN_iff)
structure bg where
 pure:FuncId→List AV→AV→Prop
 heap:FuncId→List AV→Heap→AV→Heap→Prop
 iter:FuncId→List AV→Heap→List (List AV→Prop)→Prop
 fix:FuncId→List AV→Heap→AV→Heap→Prop
 fx:Bool
 pan:FuncId→List AV→Heap→AV→Heap→Prop
def FS (op:BinOp) (k:IntKind) (x y:Int):Int:=match op with
 | .shl=>k.wrap (x*2 ^ (min y.toNat k.bits))
 |_=>x.fdiv (2 ^ (min y.toNat k.bits))
def yw:BinOp→Bool
 | .shl| .shr=>true
 |_=>false
def du (ρ:Operand→AV) (z:Int):Option Operand→Option Int
 |none=>some z
 |some x=>match ρ x with
  | .d (.int _ n)=>some n
  |_=>none
def ma:List (List D)→Option Bs
 |[]=>some []
 |[.int .u8 n]::r=>match ma r with
  |some s=>some (UInt8.ofNat n.toNat::s)
  |none=>none
 |_=>none
def yZ (h:Heap):AV→Option Bs
 | .d (.list rows)=>ma rows
 | .own id=>match look h.objs id with
   |some (.row _ _ rows)=>ma rows
   |_=>none
 |_=>none
def kc (T:List (Nat×TI)) (ρ:Operand→AV) (h:Heap):Op→Option (Prop×AV×Heap×Rn)
 | .binOp op _ x y _=>bif yw op then (match ρ x,ρ y with
   | .d (.int k a),.d (.int _ b)=>some (0≤b,.d (.int k (FS op k a b)),h,.sub [])
   |_,_=>none) else match op with
   | .quo=>(match ρ x,ρ y with
     | .d (.int k a),.d (.int k' b)=>bif fv k k' then some (b≠0,.d (.int k (k.wrap (a.tdiv b))),h,.sub []) else none
     |_,_=>none)
   | .rem=>(match ρ x,ρ y with
     | .d (.int k a),.d (.int k' b)=>bif fv k k' then some (b≠0,.d (.int k (a.tmod b)),h,.sub []) else none
     |_,_=>none)
   | .add=>(match ρ x,ρ y with
     | .d (.str a),.d (.str b)=>some (a.length+b.length≤big,.d (.str (a++b)),h,.sub [])
     |_,_=>none)
   |_=>none
 | .convert src dst x=>match look T src,look T dst,yZ h (ρ x) with
   |some ts,some td,some s=>match ts.kind,td.kind with
    | .slice e,.str=>match look T e with
      |some te=>match te.kind with
       | .int .u8=>some (s.length≤big,.d (.str s),h,.sub [])
       |_=>none
      |none=>none
    |_,_=>none
   |_,_,_=>none
 | .slice t x lo hi none=>match look T t,ρ x with
   |some ti,.d (.str s)=>match ti.kind,du ρ 0 lo,du ρ s.length hi with
    | .str,some l,some u=>some (0≤l∧l≤u∧u≤s.length,.d (.str ((s.take u.toNat).drop l.toNat)),h,.sub [])
    |_,_,_=>none
   |some ti,.d (.list s)=>match ti.kind,du ρ 0 lo,du ρ s.length hi with
    | .slice e,some l,some u=>match look T e with
      |some te=>some (0≤l∧l≤u∧u≤s.length∧∀r∈s,r.length=te.size,.d (.list ((s.take u.toNat).drop l.toNat)),h,.sub [])
      |none=>none
    |_,_,_=>none
   |_,_=>none
 |_=>none
noncomputable def jc (T:List (Nat×TI)) (ρ:Operand→AV) (h:Heap) (o:Op) (K:AV→Heap→Rn→Prop):Prop:=match bB T ρ h o with
 |some (r,h',m)=>K r h' m
 |none=>match kc T ρ h o with
  |some (c,r,h',m)=>c∧K r h' m
  |none=>False
def bY:List D→List D→Bool
 |[.int k a],[.int k' b]=>fv k k'&&a==b
 |[.str a],[.str b]=>a==b
 |[.bool a],[.bool b]=>a==b
 |[.str a,.str b],[.str c,.str d]=>a==c&&b==d
 |_,_=>false
def dt:TK→List D→Bool
 | .int k,[.int k' _]=>fv k k'
 | .str,[.str _]=>true
 | .bool,[.bool _]=>true
 | .pair,[.str _,.str _]=>true
 |_,_=>false
def wA:AV→Option (List D)
 | .d x=>some [x]
 | .agg [.d x,.d y]=>some [x,y]
 | .val (.bool b)=>some [.bool b]
 |_=>none
def fc:List (List D×AV)→List D→Nat→Option (Nat×AV)
 |[],_,_=>none
 |(k',a)::r,k,i=>match bY k k' with
  |true=>some (i,a)
  |false=>fc r k (i+1)
def av:List (List D×AV)→List D→Option AV
 |[],_=>none
 |(k',a)::r,k=>match bY k k' with
  |true=>some a
  |false=>av r k
def bp:List (List D×AV)→List D→AV→List (List D×AV)
 |[],k,v=>[(k,v)]
 |(k',a)::r,k,v=>match bY k k' with
  |true=>(k',v)::r
  |false=>(k',a)::bp r k v
def kQ (ti:TI):AV:=bif ti.isAgg then .agg ti.zero else match ti.zero with|a::_=>a|[]=> .any
noncomputable def pA (S:bg) (f:FuncId) (args:List AV) (h:Heap) (K:AV→Heap→Rn→Prop):Prop:=match kh args with
 |some ((id,i,off,m,j),args')=>match look h.objs id with
  |some (.tree t sz fs rows)=>match fs[off]? with
   |some (.list t' sz' fs')=>(Qaa m (nl fs)&&Qaa j (nl (fs.take off)))=true∧∃row rn,rows[i]? =some row∧row[off]? =some (.list rn)∧
        ∃r h',AV.scalar r=true∧S.fix f args' ⟨[(0,.tree t' sz' fs' rn)],1,1⟩ r h'∧∃rn',look h'.objs 0=some (.tree t' sz' fs' rn')∧
         rP (row.set off (.list rn')) fun row'=>cq ⟨gm id (.tree t sz fs (rows.set i row')) (md [] h.objs),h.nx,h.lo⟩ fun h1=>K r h1 (.tsub [])
   |_=>False
  |_=>False
 |none=>False
noncomputable def nh (p:Option (Nat×Nat)) (lo:Nat) (r:AV) (h1:Heap) (K:AV→Heap→Rn→Prop):Prop:=match p with
 |none=>cq h1 fun h1=>K r h1 (.tsub [])
 |some (a,b)=>(Qad lo a&&Qad lo b&& !(Qaa a b)&&Qad (b+1) h1.nx)=true∧cq ⟨Jf a b h1.objs,h1.nx,h1.lo⟩ fun h1=>K (AV.map (yi a b) r) h1 (.mv a b)
noncomputable def IU (S:bg) (f:FuncId) (args:List AV) (h:Heap) (K:AV→Heap→Rn→Prop):Prop:=
 (∃ids p r h',gu ids=true∧(match j4 ids h with|some hc=>S.fix f (bb (ly ids) args) hc r h'|none=>False)∧
   nh p h.lo (AV.map (iQ ids h.nx) r) (d9 ids h h') K)∨
 (∃as r,nt r=true∧Ho h.objs args as∧S.pure f as r∧K r h (.sub []))
noncomputable def kU (S:bg) (f:FuncId) (args:List AV) (h:Heap) (K:AV→Heap→Rn→Prop):Prop:=
 (∃r,S.pure f (aU h.objs args) r∧
   match AV.scalar r with
   |true=>K r h (.sub [])
   |false=>match pubs (aF args) h.objs with
    |(l,m)=>K r ⟨l,h.nx,h.lo⟩ (.sub m))∨
 (∃r h',(S.fx=false∧S.heap f args h r h')∧K r h' .drop)∨
 (∃r h',(match pubs (aF args) h.objs with|(l,m)=>S.fx=false∧S.heap f (uH m args) ⟨l,h.nx,h.lo⟩ r h')∧K r h' .drop)∨
 (∃r,AV.scalar r=true∧S.pure f (aN h.objs args) r∧K r h (.sub []))∨
 (∃r,(∀g,S.pure f (bw h.objs g args) r)∧K r h (.sub []))∨
 (∃r h',ba 0 args=true∧S.heap f args hp0 r h'∧cq (h.join h') fun h1=>K (dv h.nx r) h1 (.sub []))∨
 (∃r h',S.heap f (aN h.objs args) hp0 r h'∧(mQ h'.objs&&it r)=true∧cq (h.join h') fun h1=>K (dv h.nx r) h1 (.sub []))∨
 (∃ids p r h',gu ids=true∧(match j4 ids h with|some hc=>S.fix f (aG (ly ids) args) hc r h'|none=>False)∧
   nh p h.lo (AV.map (iQ ids h.nx) r) (d9 ids h h') K)∨
 pA S f args h K∨IU S f args h K
def C1 (k:TK) (h:Heap) (x:AV) (K:AV→Heap→Rn→Prop):Prop:=
 match k,x with
 | .str,.d (.str s)=>K (.d (.int .i64 s.length)) h (.sub [])
 | .slice _,.d (.list s)=>K (.d (.int .i64 s.length)) h (.sub [])
 | .slice _,.nils=>K (.d (.int .i64 0)) h (.sub [])
 | .slice _,.own id=>match look h.objs id with
   |some (.row _ _ rows)=>K (.d (.int .i64 rows.length)) h (.sub [])
   |some (.tree _ _ _ rows)=>K (.d (.int .i64 rows.length)) h (.sub [])
   |_=>False
 | .slice _,.val (.slice _ n _)=>K (.d (.int .i64 n)) h (.sub [])
 |_,_=>False
noncomputable def xm (T:List (Nat×TI)) (h:Heap) (t:TypeId) (s x:AV) (K:AV→Heap→Rn→Prop):Prop:=
 match look T t,x,s with
 |some ti,.d (.list new),.own id=>match ti.kind,look h.objs id with
  | .slice e,some (.row e' sz rows)=>match look T e with
    |some te=>(Qaa e e'&&Qaa sz te.size&&Qaa te.size 1)=true∧new.length=rows.length∧0<new.length∧(∀r∈new,r.length=1)∧
      K (.d (.int .i64 new.length)) (h.set id (.row e sz new)) (.sub [])
    |none=>False
  | .slice e,some (.tree e' sz fs rows)=>match look T e with
    |some te=>(Qaa e e'&&Qaa sz te.size&&Qaa te.size 1&&bk fs)=true∧new.length=rows.length∧0<new.length∧(∀r∈new,gM 1 r)∧
      cq (h.set id (.tree e sz fs new)) fun h1=>K (.d (.int .i64 new.length)) h1 (.sub [])
    |none=>False
  |_,_=>False
 |_,_,_=>False
def y5 (l:List (Nat×AO)):AV→Option (List (List D))
 | .d (.list rows)=>some rows
 | .nils=>some []
 | .own id=>match look l id with
   |some (.row _ _ rows)=>some rows
   |_=>none
 |_=>none
def nI (te:TI) (l:List (Nat×AO)) (s x:AV):Option (List NT×List (List D)×List Nat×Bool):=match x with
 | .own k=>match look l k with
   |some (.tree _ _ fs' new)=>match s with
    | .own id=>match look l id with
      |some (.tree _ _ fs _)=>bif iM fs fs'&& !(Qaa k id) then some (fs,new,[k],false) else none
      |_=>none
    | .nils=>some (fs',new,[k],false)
    |_=>none
   |_=>none
 | .d (.list new)=>match s with
   | .own id=>match look l id with
     |some (.tree _ _ fs _)=>bif bk fs then some (fs,new,[],true) else none
     |_=>none
   | .nils=>match te.nts with
     |[]=>none
     |f::fs=>bif bk (f::fs) then some (f::fs,new,[],true) else none
   |_=>none
 | .nils=>match s with
   | .own id=>match look l id with
     |some (.tree _ _ fs _)=>some (fs,[],[],false)
     |_=>none
   | .nils=>match te.nts with
     |[]=>none
     |f::fs=>some (f::fs,[],[],false)
   |_=>none
 |_=>none
noncomputable def jt (T:List (Nat×TI)) (fx:Bool) (h:Heap) (t t2:TypeId) (s x:AV) (K:AV→Heap→Rn→Prop):Prop:=
 match look T t with
 |some ti=>match ti.kind with
  | .slice e=>match look T e with
    |some te=>match nI te h.objs s x with
     |some (fs,new,ks,cp)=>(Qaa t t2&&Qad te.bytes 131072&&Qad 1 te.size&&Qaa fs.length te.size)=true∧(match cp with|true=>∀r∈new,gM te.size r|false=>True)∧match s with
      | .own id=>match look h.objs id with
        |some (.tree e' sz _ rows)=>(Qaa e e'&&Qaa sz te.size&&(!fx||Qad h.lo id))=true∧rows.length+new.length≤big∧
            cq ⟨(id,.tree e sz fs (rows++new))::md (id::ks) h.objs,h.nx,h.lo⟩ fun h1=>K (.own id) h1 (.tsub (id::ks))
        |_=>False
      | .nils=>new.length≤big∧cq ⟨(h.nx,.tree e te.size fs new)::md ks h.objs,h.nx+1,h.lo⟩ fun h1=>K (.own h.nx) h1 (.tsub ks)
      |_=>False
     |none=>match y5 h.objs x with
      |some new=>(Qaa t t2&&Qad te.bytes 131072&&Qad 1 te.size)=true∧(∀r∈new,r.length=te.size)∧match s with
       | .own id=>match look h.objs id with
         |some (.row e' sz rows)=>(Qaa e e'&&Qaa sz te.size&&(!fx||Qad h.lo id))=true∧rows.length+new.length≤big∧
            K (.own id) ⟨gm id (.row e sz (rows++new)) (vh id .any h.objs),h.nx,h.lo⟩ (.sub [(id,.any)])
         |_=>False
       | .nils=>new.length≤big∧K (.own h.nx) (h.new (.row e te.size new)) (.sub [])
       |_=>False
      |none=>False
    |none=>False
  |_=>False
 |none=>False
def Cc (ρ:Operand→AV) (n:Nat) (hi mx:Option Operand):Prop:=match mx with
 |none=>True
 |some _=>du ρ n mx=some (n:Int)∧hi.isSome=true
noncomputable def jR (T:List (Nat×TI)) (fx:Bool) (ρ:Operand→AV) (h:Heap) (t:TypeId) (id:Nat) (lo hi mx:Option Operand) (K:AV→Heap→Rn→Prop):Prop:=match look T t with
 |some ti=>match ti.kind with
  | .slice e=>match look T e with
    |some te=>(!fx||Qad h.lo id)=true∧match look h.objs id with
     |some (.row e' sz rows)=>Qaa sz te.size=true∧du ρ 0 lo=some 0∧du ρ rows.length hi=some (rows.length:Int)∧Cc ρ rows.length hi mx∧
       cq ⟨(id,.row e' sz rows)::md [id] h.objs,h.nx,h.lo⟩ fun h1=>K (.own id) h1 (.tsub [id])
     |some (.tree e' sz fs rows)=>Qaa sz te.size=true∧du ρ 0 lo=some 0∧du ρ rows.length hi=some (rows.length:Int)∧Cc ρ rows.length hi mx∧
       cq ⟨(id,.tree e' sz fs rows)::md [id] h.objs,h.nx,h.lo⟩ fun h1=>K (.own id) h1 (.tsub [id])
     |_=>False
    |none=>False
  |_=>False
 |none=>False
def nE (T:List (Nat×TI)) (ρ:Operand→AV) (h:Heap) (t:TypeId) (x k v:Operand) (K:AV→Heap→Rn→Prop):Prop:=
 match look T t with
 |some ti=>match ti.kind with
  | .map kt _=>match look T kt,ρ x,wA (ρ k) with
    |some tk,.mapr id,some key=>match look h.objs id with
     |some (.map t' tk' es)=>(Qaa t t'&&dt tk.key key&&dt tk'.base key)=true∧K (.val undef) (h.set id (.map t' tk' (bp es key (ρ v)))) (.sub [])
     |_=>False
    |_,_,_=>False
  |_=>False
 |none=>False
def jV (T:List (Nat×TI)) (ρ:Operand→AV) (h:Heap) (t:TypeId) (x k:Operand) (K:AV→Heap→Rn→Prop):Prop:=
 match look T t with
 |some ti=>match ti.kind with
  | .map kt vt=>match look T kt,look T vt,ρ x,wA (ρ k) with
    |some tk,some tv,.mapr id,some key=>match look h.objs id with
     |some (.map t' tk' es)=>(Qaa t t'&&dt tk.key key&&dt tk'.base key&&(kQ tv).one&& !tk'.isDel)=true∧∃r,fc es key 0=r∧match r with
      |some (j,v)=>K (.tup [v,.d (.int .i64 j)]) h (.sub [])
      |none=>K (.tup [kQ tv,.d (.int .i64 es.length)]) (h.set id (.map t' tk' (es++[(key,kQ tv)]))) (.sub [])
     |_=>False
    |_,_,_,_=>False
  |_=>False
 |none=>False
def iE (ρ:Operand→AV) (h:Heap) (x s v:Operand) (K:AV→Heap→Rn→Prop):Prop:=
 match ρ x,ρ s with
 | .mapr id,.d (.int _ j)=>match look h.objs id with
   |some (.map t' tk' es)=>((ρ v).one&& !tk'.isDel)=true∧0≤j∧∃p,es[j.toNat]? =some p∧K (.val undef) (h.set id (.map t' tk' (es.set j.toNat (p.1,ρ v)))) (.sub [])
   |_=>False
 |_,_=>False
def fS:List (List D×AV)→List D→List (List D×AV)
 |[],_=>[]
 |(k',a)::r,k=>match bY k k' with
  |true=>r
  |false=>(k',a)::fS r k
def vV (T:List (Nat×TI)) (h:Heap) (t:TypeId) (x k:AV) (K:AV→Heap→Rn→Prop):Prop:=match look T t with
 |some ti=>match ti.kind with
  | .map kt _=>match look T kt,x,wA k with
    |some tk,.mapr id,some key=>match look h.objs id with
     |some (.map t' tk' es)=>(Qaa t t'&&dt tk.key key&&dt tk'.base key)=true∧K (.val undef) (h.set id (.map t' (.del tk'.base) (fS es key))) (.sub [])
     |_=>False
    |_,_,_=>False
  |_=>False
 |none=>False
def F0 (l:List (Nat×AO)) (id sz i:Nat):Option (List D):=match look l id with
 |some (.row _ sz' rows)=>bif Qaa sz sz' then rows[i]? else none
 |_=>none
noncomputable def bq (T:List (Nat×TI)) (S:bg) (ρ:Operand→AV) (h:Heap) (o:Op) (K:AV→Heap→Rn→Prop):Prop:=
 match o with
 | .call c=>match c.callee with
   | .value f=>match ρ f with
     | .fn f caps=>kU S f (c.args.toList.map ρ++caps) h K
     | .d (.fn f)=>kU S f (c.args.toList.map ρ++[]) h K
     | .bfn f first=>kU S f (first++c.args.toList.map ρ) h K
     |_=>False
   | .invoke x name=>match ρ x with
     | .iface t v=>match look T t with
       |some ti=>match ti.kind with
        | .ptr=>False
        |_=>match ti.meths.lookup name with
         |some f=>kU S f (v::c.args.toList.map ρ) h K
         |none=>False
       |none=>False
     |_=>False
   | .builtin .len=>match c.args.toList,c.argTypes.toList with
     |[x],[t]=>match look T t with
      |some ti=>C1 ti.kind h (ρ x) K
      |none=>False
     |_,_=>False
   | .builtin .append=>match c.args.toList,c.argTypes.toList with
     |[s,x],[t,t2]=>jt T S.fx h t t2 (ρ s) (ρ x) K
     |_,_=>False
   | .builtin .copy=>match c.args.toList,c.argTypes.toList with
     |[s,x],[t,_]=>xm T h t (ρ s) (ρ x) K
     |_,_=>False
   | .builtin .delete=>match c.args.toList,c.argTypes.toList with
     |[s,x],[t,_]=>vV T h t (ρ s) (ρ x) K
     |_,_=>False
   |_=>False
 | .index t x i=>match look T t with
   |some ti=>match ti.kind,ρ x,ρ i with
    | .str,.d (.str s),.d (.int _ i)=>0≤i∧∃b,s[i.toNat]? =some b∧K (.d (.int .u8 b.toNat)) h (.sub [])
    | .array n e,.agg cs,.d (.int _ i)=>(0≤i∧i<n)∧match look T e with
      |some te=>∃r,kF te (cs.drop (i.toNat*te.size))=some r∧K r h (.sub [])
      |none=>False
    |_,_,_=>False
   |none=>False
 | .indexAddr t x i=>match look T t with
   |some ti=>match ti.kind with
    | .slice e=>match look T e with
      |some te=>Qad 1 te.size=true∧match ρ x,ρ i with
       | .d (.list s),.d (.int _ i)=>0≤i∧∃b,s[i.toNat]? =some b∧b.length=te.size∧K (.at_ b) h (.sub [])
       | .own id,.d (.int _ i)=>match look h.objs id with
         |some (.row _ sz rows)=>Qaa sz te.size=true∧0≤i∧i<rows.length∧K (.rptr id i.toNat sz 0) h (.sub [])
         |some (.tree _ sz _ rows)=>Qaa sz te.size=true∧0≤i∧i<rows.length∧K (.rptr id i.toNat sz 0) h (.sub [])
         |_=>False
       |_,_=>False
      |none=>False
    |_=>False
   |none=>False
 | .store t a x=>match look T t with
   |some ti=>match cellsOf ti (ρ x),ρ a with
    |some new,.ptr id off=>match look h.objs id with
     |some (.cells t' cs)=>Qad (off+new.length) cs.length=true∧K (.val undef) (h.set id (.cells t' (over cs off new))) (.sub [])
     |_=>False
    |some new,.rptr id i sz' off=>match look h.objs id with
     |some (.tree e sz fs rows)=>match qw h.objs ((fs.drop off).take new.length) new with
      |some (ds,ks)=>(Qaa sz' sz&&gu (id::ks))=true∧∃r,rows[i]? =some r∧off+ds.length≤r.length∧
        rP (dW r off ds) fun r'=>match bk ((fs.drop off).take new.length) with
            |true=>K (.val undef) (h.set id (.tree e sz fs (rows.set i r'))) (.sub [])
            |false=>K (.val undef) ⟨gm id (.tree e sz fs (rows.set i r')) (md ks h.objs),h.nx,h.lo⟩ (.tsub ks)
      |none=>False
     |some (.row e sz rows)=>match dsOf (new.map mj) with
      |some ds=>Qaa sz' sz=true∧∃r,rows[i]? =some r∧off+ds.length≤r.length∧K (.val undef) (h.set id (.row e sz (rows.set i (dW r off ds)))) (.sub [])
      |none=>False
     |_=>False
    |_,_=>False
   |none=>False
 | .makeSlice t len cap=>match look T t with
   |some ti=>match ti.kind with
    | .slice e=>match look T e with
      |some te=>match dsOf te.zero,ρ len,ρ cap with
       |some z,.d (.int .i64 l),.d (.int .i64 c)=>(Qad te.bytes 131072&&Qad 1 te.size&&Qaa z.length te.size&&te.fits)=true∧0≤l∧l≤c∧c≤big∧K (.own h.nx) (h.new (te.obj e (List.replicate l.toNat z))) (.sub [])
       |_,_,_=>False
      |none=>False
    |_=>False
   |none=>False
 | .lookup t x k ok=>match look T t with
   |some ti=>match ti.kind with
    | .map kt vt=>match look T kt,look T vt,ρ x,wA (ρ k) with
      |some tk,some tv,.mapr id,some key=>match look h.objs id with
       |some (.map t' tk' es)=>(Qaa t t'&&dt tk.key key&&dt tk'.base key)=true∧∃r,av es key=r∧match r with
        |some v=>K (match ok with|true=> .tup [v,.val (.bool true)]|false=>v) h (.sub [])
        |none=>K (match ok with|true=> .tup [kQ tv,.val (.bool false)]|false=>kQ tv) h (.sub [])
       |_=>False
      |_,_,_,_=>False
    |_=>False
   |none=>False
 | .load t a=>match ρ a with
   | .rptr id i sz off=>match look h.objs id with
     |some (.tree _ sz' fs rows)=>Qaa sz sz'=true∧∃r,rows[i]? =some r∧match look T t with
      |some ti=>match kF ti ((eI id i (nl fs) fs r 0 0).drop off) with
       |some v=>K v h (.sub [])
       |none=>False
      |none=>False
     |_=>∃r,F0 h.objs id sz i=some r∧match look T t with
      |some ti=>match qH ti (r.drop off) with
       |some v=>K v h (.sub [])
       |none=>False
      |none=>False
   |_=>match bB T ρ h (.load t a) with
    |some (r,h',m)=>K r h' m
    |none=>False
 | .slice t x lo hi mx=>match ρ x with
   | .own id=>jR T S.fx ρ h t id lo hi mx K
   |_=>jc T ρ h (.slice t x lo hi mx) K
 | .mapUpdate t x k v=>nE T ρ h t x k v K
 | .insert t x k v=>nE T ρ h t x k v K
 | .mapEntry t x k=>jV T ρ h t x k K
 | .entryStore _ x s v=>iE ρ h x s v K
 |o=>jc T ρ h o K
theorem Ci {T:List (Nat×TI)} {S:bg} {ρ:Operand→AV} {h:Heap} {t:TypeId} {a:Operand} {K:AV→Heap→Rn→Prop} (hv:bq T S ρ h (.load t a) K):
 (match bB T ρ h (.load t a) with|some (r,h',m)=>K r h' m|none=>False)∨
 ∃id i sz off t' fs rows r ti v,ρ a= .rptr id i sz off∧look h.objs id=some (.tree t' sz fs rows)∧rows[i]? =some r∧look T t=some ti∧kF ti ((eI id i (nl fs) fs r 0 0).drop off)=some v∧K v h (.sub []):=by
 simp only[bq] at hv;split at hv
 ·rename_i id i sz off e
  split at hv
  ·rename_i t' sz' fs rows hid
   obtain ⟨hb,r,hr,hv⟩:=hv;have hb:=Qae hb;subst hb;split at hv
   ·rename_i ti hti
    split at hv
    ·rename_i v hl
     exact .inr ⟨id,i,sz,off,t',fs,rows,r,ti,v,e,hid,hr,hti,hl,hv⟩
    ·exact hv.elim
   ·exact hv.elim
  ·left
   obtain ⟨r,hr,hv⟩:=hv;simp only[bB,e];simp only[F0] at hr
   cases hti:look T t with
   |none=>rw[hti] at hv;exact hv.elim
   |some ti=>
    rw[hti] at hv
    cases ho:look h.objs id with
    |none=>rw[ho] at hr;cases hr
    |some o=>
     rw[ho] at hr
     cases o with
     |row t' sz' rows=>
      simp only at hr ⊢
      cases hb:Qaa sz sz' with
      |false=>rw[hb] at hr;cases hr
      |true=>
       rw[hb] at hr;simp only[cond_true] at hr ⊢;rw[hr];simp only at hv ⊢
       cases hl:qH ti (r.drop off) with
       |none=>rw[hl] at hv;exact hv.elim
       |some v=>rw[hl] at hv;simpa using hv
     |tree t' sz' fs rows=>cases hr
     |cells _ _=>cases hr
     |map _ _ _=>cases hr
 ·exact .inl hv
noncomputable def j9 (σ:Env) (m:Rn) (n:Nat) (d:Option Nat) (r:AV) (K:Env→Prop):Prop:=match m with
 | .sub []=>match d with
   |none=>K σ
   |some k=>match Qad (k+1) n with
    |true=>fW r fun r=>K (σ.put k r)
    |false=>K σ
 | .sub ((i,b)::l)=>fW r fun r=>K ((σ.ren (.sub ((i,b)::l))).putO n d r)
 | .drop=>fW r fun r=>K ((σ.ren .drop).putO n d r)
 | .tsub ks=>fW r fun r=>K ((σ.ren (.tsub ks)).putO n d r)
 | .mv a b=>fW r fun r=>K ((σ.ren (.mv a b)).putO n d r)
theorem putK_iff {σ:Env} {m:Rn} {n:Nat} {d:Option Nat} {r:AV} {K:Env→Prop}:j9 σ m n d r K↔K ((σ.ren m).putO n d r):=by
 unfold j9;split
 ·cases d with
  |none=>exact Iff.rfl
  |some k=>
   simp only[Env.ren,Env.subs,Env.putO];cases Qad (k+1) n
   ·exact Iff.rfl
   ·exact forceV_iff
 ·exact forceV_iff
 ·exact forceV_iff
 ·exact forceV_iff
 ·exact forceV_iff
noncomputable def qL (o:Op) (h:Heap) (K:Heap→Prop):Prop:=match o with
 | .store _ _ _=>cq h K
 | .box _ _=>cq h K
 | .alloc _=>cq h K
 | .makeMap _ _=>cq h K
 | .makeSlice _ _ _=>cq h K
 | .buildSlice _ _ _=>cq h K
 | .mapUpdate _ _ _ _=>cq h K
 | .insert _ _ _ _=>cq h K
 | .mapEntry _ _ _=>cq h K
 | .entryStore _ _ _ _=>cq h K
 | .call _=>cq h K
 |_=>K h
theorem heapK_iff {o:Op} {h:Heap} {K:Heap→Prop}:qL o h K↔K h:=by
 unfold qL;split<;>first|exact Iff.rfl|exact forceH_iff
def br:Bool→Bool→Prop→Prop→Prop
 |true,b,A,B=>(b=true→A)∧(b=false→B)
 |false,b,A,B=>(b=false→A)∧(b=true→B)
noncomputable def lR (T:List (Nat×TI)) (S:bg) (n:Nat) (ops:Array Oper) (o:Oper) (ih:Env→Heap→(Env→Heap→Prop)→Prop) (σ:Env) (h:Heap) (K:Env→Heap→Prop):Prop:=
 match o.guard with
 |none=>bq T S (ev σ) h o.op fun r h' m=>j9 σ m n o.dst r fun σ'=>qL o.op h' fun h''=>ih σ' h'' K
 |some (g,want)=>match (ops[g]?).bind (·.dst) with
  |none=>False
  |some gd=>match σ gd with
   | .d (.bool b)=>
     br want b (bq T S (ev (σ.put gd (.val (.bool want)))) h o.op fun r h' m=>j9 (σ.put gd (.val (.bool want))) m n o.dst r fun σ'=>qL o.op h' fun h''=>ih σ' h'' K)
        (ih ((σ.put gd (.val (.bool (!want)))).putO n o.dst (.val undef)) h K)
   | .val (.bool b)=>match b==want with
     |true=>bq T S (ev σ) h o.op fun r h' m=>j9 σ m n o.dst r fun σ'=>qL o.op h' fun h''=>ih σ' h'' K
     |false=>ih (σ.putO n o.dst (.val undef)) h K
   | .val (.tuple _)=>ih (σ.putO n o.dst (.val undef)) h K
   |_=>False
noncomputable def hU (T:List (Nat×TI)) (S:bg) (n:Nat) (ops:Array Oper) (l:List Oper):Env→Heap→(Env→Heap→Prop)→Prop:=
 List.rec (motive:=fun _=>Env→Heap→(Env→Heap→Prop)→Prop) (fun σ h K=>K σ h) (fun o _ ih=>lR T S n ops o ih) l
theorem r7 {T:List (Nat×TI)} {S:bg} {n:Nat} {ops:Array Oper} {o:Oper} {l:List Oper} {σ:Env} {h:Heap} {K:Env→Heap→Prop}:hU T S n ops (o::l) σ h K=lR T S n ops o (hU T S n ops l) σ h K:=rfl
def vo:Option Nat→List (Nat×Bool)→List (Nat×Bool)
 |none,l=>l
 |some d,l=>del d l
noncomputable def mN (T:List (Nat×TI)) (S:bg) (n:Nat) (ops:Array Oper) (o:Oper) (ih:List (Nat×Bool)→Env→Heap→(Env→Prop)→Prop) (dec:List (Nat×Bool)) (σ:Env) (h:Heap) (K:Env→Prop):Prop:=
 match o.guard with
 |none=>bq T S (ev σ) h o.op fun r h' m=>h'=h∧m= .sub []∧j9 σ (.sub []) n o.dst r fun σ'=>ih (vo o.dst dec) σ' h K
 |some (g,want)=>match (ops[g]?).bind (·.dst) with
  |none=>False
  |some gd=>match look dec gd with
   |some b=>match b==want with
    |true=>bq T S (ev σ) h o.op fun r h' m=>h'=h∧m= .sub []∧j9 σ (.sub []) n o.dst r fun σ'=>ih (vo o.dst dec) σ' h K
    |false=>ih (vo o.dst dec) (σ.putO n o.dst (.val undef)) h K
   |none=>match σ gd with
    | .d (.bool b)=>
      br want b (bq T S (ev (σ.put gd (.d (.bool want)))) h o.op fun r h' m=>h'=h∧m= .sub []∧j9 (σ.put gd (.d (.bool want))) (.sub []) n o.dst r fun σ'=>ih (vo o.dst ((gd,want)::dec)) σ' h K)
         (ih (vo o.dst ((gd,!want)::dec)) ((σ.put gd (.d (.bool (!want)))).putO n o.dst (.val undef)) h K)
    | .val (.bool b)=>match b==want with
      |true=>bq T S (ev σ) h o.op fun r h' m=>h'=h∧m= .sub []∧j9 σ (.sub []) n o.dst r fun σ'=>ih (vo o.dst dec) σ' h K
      |false=>ih (vo o.dst dec) (σ.putO n o.dst (.val undef)) h K
    | .val (.tuple _)=>ih (vo o.dst dec) (σ.putO n o.dst (.val undef)) h K
    |_=>False
noncomputable def gl (T:List (Nat×TI)) (S:bg) (n:Nat) (ops:Array Oper) (l:List Oper):List (Nat×Bool)→Env→Heap→(Env→Prop)→Prop:=
 List.rec (motive:=fun _=>List (Nat×Bool)→Env→Heap→(Env→Prop)→Prop) (fun _ σ _ K=>K σ) (fun o _ ih=>mN T S n ops o ih) l
theorem xg {T:List (Nat×TI)} {S:bg} {n:Nat} {ops:Array Oper} {o:Oper} {l:List Oper} {dec:List (Nat×Bool)} {σ:Env} {h:Heap} {K:Env→Prop}:gl T S n ops (o::l) dec σ h K=mN T S n ops o (gl T S n ops l) dec σ h K:=rfl
def KR (nx:Nat):List (Nat×AV)→Env→Prop
 |[],_=>True
 |(k,v)::l,σ=>(match v with
  | .d (.bool _)=>mj (σ k)=v
  | .own id=>match Qad nx id with
    |true=>σ k= .nils
    |false=>σ k=v
  |v=>σ k=v)∧KR nx l σ
def Jj (n:Nat):List (Nat×AV)→Bool
 |[]=>true
 |(_,v)::l=>v.lt n&&Jj n l
def Kj (nx:Nat):List AV→List AV→Prop
 |[],[]=>True
 |c::cs,c'::cs'=>(match c with
  | .own id=>(match Qad nx id with
    |true=>c'= .nils
    |false=>c'= .own id)
  |c=>c'=c)∧Kj nx cs cs'
 |_,_=>False
def Cx (nx:Nat):List AV→Bool
 |[]=>false
 | .own id::cs=>Qad nx id||Cx nx cs
 |_::cs=>Cx nx cs
def Ki (nx:Nat):List (Nat×AO)→List (Nat×AO)→Prop
 |[],_=>True
 |(k,o)::l,l'=>(match Qad nx k with
  |true=>(match o with| .tree _ sz fs []=>Qad 1 sz&&Qaa fs.length sz| .row _ sz []=>Qad 1 sz|_=>false)=true
  |false=>match o with
   | .map t (.del tk) es=>(match look l' k with|some (.map t' tk' es')=>t'=t∧tk'.base=tk∧es'=es|_=>False)
   | .cells t cs=>(match Cx nx cs with
     |true=>(match look l' k with|some (.cells t' cs')=>t'=t∧Kj nx cs cs'|_=>False)
     |false=>look l' k=some (.cells t cs))
   |o=>look l' k=some o)∧Ki nx l l'
def Fu (n:Nat):List (Nat×AO)→Prop
 |[]=>True
 |(k,.cells _ cs)::l=>(Qad (k+1) n&&ba n cs)=true∧Fu n l
 |(k,.row _ _ _)::l=>Qad (k+1) n=true∧Fu n l
 |(k,.tree _ _ _ _)::l=>Qad (k+1) n=true∧Fu n l
 |(k,.map _ _ es)::l=>(Qad (k+1) n=true∧Fv n es)∧Fu n l
def fZ (σ:Env) (h:Heap) (l:List (Nat×AV)) (h':Heap):Prop:=
 (Qaa h'.lo h.lo&&Qad h'.lo h'.nx)=true∧Jj h'.nx l=true∧KR h.nx l σ∧Fu h'.nx h'.objs∧Ki h.nx h'.objs h.objs
abbrev vK:=Env→Heap→(Exit→Env→Heap→Prop)→Prop
def J5 (b:vK) (Q:Exit→Env→Heap→Prop) (e:Exit) (σ:Env) (h:Heap):Prop:=match e with
 | .normal=>b σ h Q
 |e=>Q e σ h
def kw (id:Nat) (Q:Exit→Env→Heap→Prop) (e:Exit) (σ:Env) (h:Heap):Prop:=match e with
 | .exit id'=>bif Qaa id' id then Q .normal σ h else Q (.exit id') σ h
 |e=>Q e σ h
def BJ (Q:Exit→Env→Heap→Prop):Exit→Env→Heap→Prop
 | .goto _,_,_=>False
 |e,σ,h=>Q e σ h
def sY (I:Nat→List (Nat×AV)→Heap→Prop) (k:Nat) (Q:Exit→Env→Heap→Prop) (e:Exit) (σ:Env) (h:Heap):Prop:=match e with
 | .normal=>∃k' l' h'',I k' l' h''∧k'<k∧fZ σ h l' h''
 |e=>Q e σ h
def jW (c:Operand) (t e:vK) (σ:Env) (h:Heap) (Q:Exit→Env→Heap→Prop):Prop:=match ev σ c with
 | .d (.bool b)=>(b=true→t σ h Q)∧(b=false→e σ h Q)
 | .val (.bool b)=>match b with
   |true=>t σ h Q
   |false=>e σ h Q
 |_=>False
def mO (c:vK) (σ:Env) (h:Heap) (Q:Exit→Env→Heap→Prop):Prop:=
 ∃I:Nat→List (Nat×AV)→Heap→Prop,(∃k l h',I k l h'∧fZ σ h l h')∧∀k l h1,I k l h1→c (Env.of l) h1 (sY I k Q)
def iN (n:Nat):List Nat→List AV→Env→Env
 |p::ps,v::vs,σ=>iN n ps vs (σ.putO n (some p) v)
 |_,_,σ=>σ
def dr (l:List (Nat×AO)):Nat→Bool
 |0=>true
 |k+1=>(match look l k with|some (.cells _ _)=>true|_=>false)&&dr l k
def thinC:List AV→List AV→Prop
 |[],y=>y=[]
 | .d (.list rows)::as,y=>∃A c ys,y= .d (.raw (.slice A rows.length c))::ys∧thinC as ys
 | .d x::as,y=>∃ys,y= .d x::ys∧thinC as ys
 | .nils::as,y=>∃ys,y= .nils::ys∧thinC as ys
 | .val v::as,y=>∃ys,y= .val v::ys∧thinC as ys
 |_::as,y=>∃ys,y= .any::ys∧thinC as ys
def thinL:List AV→List AV→Prop
 |[],y=>y=[]
 | .agg cs::as,y=>∃cs' ys,y= .agg cs'::ys∧thinC cs cs'∧thinL as ys
 |a::as,y=>∃y0 ys,y=y0++ys∧thinC [a] y0∧thinL as ys
def Lw (h:Heap) (nx:Nat) (x:AV):AV→Prop
 | .d (.bool b)=>mj x= .d (.bool b)
 | .at_ ds=>x= .at_ ds∨∃id off t cs,x= .ptr id off∧nx≤id∧look h.objs id=some (.cells t cs)∧dsOf (cs.drop off)=some ds∧(match ds with|[]=>false|_=>true)=true
 |v=>x=v
def KS (h:Heap) (nx:Nat):List (Nat×AV)→Env→Prop
 |[],_=>True
 |(k,v)::l,σ=>Lw h nx (σ k) v∧KS h nx l σ
def IQ (σ:Env) (h:Heap) (l:List (Nat×AV)) (h':Heap):Prop:=
 (Qad h'.nx h.nx&&Qaa h'.lo h.lo&&Qad h'.lo h'.nx)=true∧Jj h'.nx l=true∧KS h h'.nx l σ∧Fu h'.nx h'.objs∧Ki h.nx h'.objs h.objs
def F5 (Gd:Prop) (h0:Heap) (Q:Exit→Env→Heap→Prop) (σn:Env):Exit→Env→Heap→Prop
 | .normal,σ,h=>Gd∧fZ σ h [] ⟨h0.objs,h0.nx,h0.nx⟩
 | .ret,_,h=>(dr h.objs h.nx&&Qad h0.lo h.nx)=true∧Q .ret σn ⟨h.objs,h.nx,h0.lo⟩
 | .exit id,_,h=>(dr h.objs h.nx&&Qad h0.lo h.nx)=true∧Q (.exit id) σn ⟨h.objs,h.nx,h0.lo⟩
 |_,_,_=>False
def Ir (h0:Heap) (body:vK) (R:Exit→Env→Heap→Prop):Exit→Env→Heap→Prop
 | .normal,σ,h=>∃l,IQ σ h l ⟨h0.objs,h0.nx,h0.nx⟩∧body (Env.of l) ⟨h0.objs,h0.nx,h0.nx⟩ R
 |_,_,_=>False
def nD (S:bg) (n:Nat) (g:Operand) (ps:Array Nat) (assign body:vK) (σ:Env) (h:Heap) (Q:Exit→Env→Heap→Prop):Prop:=match ev σ g with
 | .fn f caps=>(!S.fx&&dr h.objs h.nx)=true∧∃(xs:List (List AV→Prop)) (Gd:Nat→Prop),S.iter f caps h xs∧(∀X∈xs,∀x,X x→x.length=ps.size)∧
    (∀i X,xs[i]? =some X→∀x,X x→assign (iN n ps.toList x (Env.ren .drop σ)) ⟨h.objs,h.nx,h.nx⟩ (Ir h body (F5 (Gd i) h Q (Env.ren .drop σ))))∧
    ((∀i,i<xs.length→Gd i)→Q .normal (Env.ren .drop σ) h)
 |_=>False
def Ie:Op→Bool
 | .store _ _ _| .mapUpdate _ _ _ _| .entryStore _ _ _ _=>true
 |_=>false
noncomputable def iv (l:List Oper):Option (List Oper×Oper):=
 List.rec (motive:=fun _=>Option (List Oper×Oper)) none (fun o _ ih=>match ih with|none=>some ([],o)|some (i,z)=>some (o::i,z)) l
def pi (l:List Edge):Nat→Bool
 |0=>true
 |k+1=>l.any (fun e=>Region.binds .any e&&Qaa e.on k)&&pi l k
def pj (ops:Array Oper) (z:Nat):Bool:=
 (List.range z).all fun j=>(List.range (z+1)).any fun k=>Qad (j+1) k&&(match ops[k]? with|some o=>o.after.toList.any (fun e=>Region.binds .any e&&Qaa e.on j)|none=>false)
def qn:Nat→List Oper→Bool
 |_,[]=>true
 |z,o::t=>(o.guard.isNone&&o.after.toList.any (fun e=>Region.binds .any e&&Qaa e.on z))&&qn (z+1) t
noncomputable def lT (l:List Oper):Option (List Oper×Oper×List Oper):=
 List.rec (motive:=fun _=>Option (List Oper×Oper×List Oper)) none (fun o l ih=>match ih with
  |some (i,z,t)=>some (o::i,z,t)
  |none=>match o.op with
   | .call _=>some ([],o,l)
   |_=>none) l
def dP (ops:Array Oper) (i:Nat):List Nat:=match ops[i]? with
 |some o=>(o.after.toList.filter (Region.binds .any)).map (·.on)
 |none=>[]
def eH (ops:Array Oper):Nat→Nat→List Nat
 |0,_=>[]
 |k+1,i=>dP ops i++(dP ops i).flatMap (eH ops k)
def Cm (i:Nat) (l:List Nat):Bool:=l.any (Qaa i)
inductive Pln where
 |fin (ls rs:List Nat)
 |one (ls rs:List Nat) (z:Nat) (t:Pln)
 |two (ls rs:List Nat) (z:Nat) (t:Pln) (z':Nat) (t':Pln)
def fh (ops:Array Oper) (i:Nat):Option Nat:=(ops[i]?).bind (·.dst)
def kl (ops:Array Oper) (i:Nat):List Nat:=match ops[i]? with|some o=>o.looksAt ops|none=>[]
def CT:List Nat→Bool
 |i::j::l=>Qad (i+1) j&&CT (j::l)
 |_=>true
def Hh (ops:Array Oper) (n b i:Nat):Bool:=
 (match ops[i]? with|some o=>o.guard.isNone&&(match o.dst with|some d=>Qad (d+1) n|none=>true)|none=>false)&&
 (dP ops i).all (fun j=>Qad (j+1) i)&&
 (List.range b).all (fun j=>(match fh ops j with
   |some d=> !(Cm d (kl ops i))||Cm j (dP ops i)
   |none=>true)&&(Qaa i j||(match fh ops i,fh ops j with|some d,some e=> !(Qaa d e)|_,_=>true)))
def cl (l m:List Nat):List Nat:=l.filter fun i=> !(Cm i m)
def FR (ops:Array Oper) (ls rs rest old dn hs:List Nat):Bool:=
 CT ls&&ls.all (fun i=>Cm i rest&&(fh ops i).isSome)&&old.all (fun i=>Cm i rs||Cm i dn)&&rs.all (fun i=>Cm i old&&ls.all (fun j=> !(Cm j (dP ops i))))&&
 (cl rest ls).all (fun i=>Cm i hs||(dP ops i).any (fun j=>Cm j (cl rest ls)))
def ia (ops:Array Oper) (b:Nat):Pln→List Nat→List Nat→List Nat→Bool
 | .fin ls rs,rest,old,dn=>FR ops ls rs rest old dn []&&(cl rest ls).isEmpty
 | .one ls rs z t,rest,old,dn=>FR ops ls rs rest old dn [z]&&Cm z (cl rest ls)&&ia ops b t (cl (cl rest ls) [z]) (old++ls) (dn++eH ops b z)
 | .two ls rs z t z' t',rest,old,dn=>FR ops ls rs rest old dn [z,z']&&Cm z (cl rest ls)&&Cm z' (cl rest ls)&&
   ia ops b t (cl (cl rest ls) [z]) (old++ls) (dn++eH ops b z)&&ia ops b t' (cl (cl rest ls) [z']) (old++ls) (dn++eH ops b z')
def ya (ops:Array Oper) (n b:Nat) (p:Pln):Bool:=
 (List.range b).all (Hh ops n b)&&ia ops b p (List.range b) [] []&&
 (match ops.toList.drop b with|z::t=>pj ops b&&z.guard.isNone&&qn b t|[]=>false)
noncomputable def Ea (T:List (Nat×TI)) (S:bg) (n:Nat) (ops:Array Oper) (l:List Nat):Env→Heap→(Env→Prop)→Prop:=
 List.rec (motive:=fun _=>Env→Heap→(Env→Prop)→Prop) (fun σ _ K=>K σ) (fun i _ ih σ h K=>match ops[i]? with
  |some o=>bq T S (ev σ) h o.op fun r h' m=>h'=h∧m= .sub []∧j9 σ (.sub []) n o.dst r fun σ'=>ih σ' h K
  |none=>False) l
noncomputable def D7 (T:List (Nat×TI)) (S:bg) (ops:Array Oper) (l:List Nat):Env→Heap→Prop→Prop:=
 List.rec (motive:=fun _=>Env→Heap→Prop→Prop) (fun _ _ K=>K) (fun i _ ih σ h K=>match ops[i]? with
  |some o=>match o.dst with
   |some d=>bq T S (ev σ) h o.op fun r h' m=>h'=h∧m= .sub []∧fW r fun r=>fW (σ d) fun v=>r=v∧ih σ h K
   |none=>False
  |none=>False) l
noncomputable def zn (T:List (Nat×TI)) (S:bg) (n:Nat) (ops:Array Oper) (z:Nat) (σ:Env) (h:Heap) (K:Env→Heap→Prop):Prop:=match ops[z]? with
 |some o=>bq T S (ev σ) h o.op fun r h' m=>j9 σ m n o.dst r fun σ2=>qL o.op h' fun h2=>K σ2 h2
 |none=>False
noncomputable def Bz (T:List (Nat×TI)) (S:bg) (n:Nat) (ops:Array Oper) (p:Pln):Env→Heap→(Env→Heap→Prop)→Prop:=
 Pln.rec (motive:=fun _=>Env→Heap→(Env→Heap→Prop)→Prop)
  (fun ls rs σ h K=>D7 T S ops rs σ h (Ea T S n ops ls σ h fun σ1=>K σ1 h))
  (fun ls rs z _ ih σ h K=>D7 T S ops rs σ h (Ea T S n ops ls σ h fun σ1=>zn T S n ops z σ1 h fun σ2 h2=>ih σ2 h2 K))
  (fun ls rs z _ z' _ ih ih' σ h K=>D7 T S ops rs σ h (Ea T S n ops ls σ h fun σ1=>zn T S n ops z σ1 h (fun σ2 h2=>ih σ2 h2 K)∧zn T S n ops z' σ1 h (fun σ2 h2=>ih' σ2 h2 K))) p
noncomputable def FG (T:List (Nat×TI)) (S:bg) (n:Nat) (ops:Array Oper) (σ:Env) (h:Heap) (Q:Exit→Env→Heap→Prop):Prop:=match iv ops.toList with
 |some (i,z)=>match Ie z.op with
  |true=>((pi z.after.toList i.length||pj ops i.length)&&z.guard.isNone)=true∧gl T S n ops i [] σ h (fun σ'=>hU T S n ops [z] σ' h (Q .normal))
  |false=>match lT ops.toList with
   |some (i,z,t)=>match pj ops i.length&&(z.guard.isNone&&qn i.length t) with
    |true=>gl T S n ops i [] σ h (fun σ'=>hU T S n ops (z::t) σ' h (Q .normal))
    |false=>gl T S n ops ops.toList [] σ h (fun σ'=>Q .normal σ' h)
   |none=>gl T S n ops ops.toList [] σ h (fun σ'=>Q .normal σ' h)
 |none=>gl T S n ops ops.toList [] σ h (fun σ'=>Q .normal σ' h)
noncomputable def eX (T:List (Nat×TI)) (S:bg) (n:Nat) (ops:Array Oper) (draw:Bool) (σ:Env) (h:Heap) (Q:Exit→Env→Heap→Prop):Prop:=match draw with
 |false=>hU T S n ops ops.toList σ h (Q .normal)
 |true=>Region.lexB .any ops=true∧(FG T S n ops σ h Q∨∃b p,ya ops n b p=true∧Bz T S n ops p σ h (fun σ' h'=>hU T S n ops (ops.toList.drop b) σ' h' (Q .normal)))
noncomputable def y9 (T:List (Nat×TI)) (S:bg) (n:Nat) (c:Code):Bool→vK:=
 Code.rec (motive:=fun _=>Bool→vK) (skip:=fun _ σ h Q=>Q .normal σ h) (region:=fun _ ops draw _=>eX T S n ops draw)
  (seq:=fun _ _ iha ihb rd σ h Q=>iha rd σ h (J5 (ihb rd) Q)) (cond:=fun c _ _ t e rd=>jW c (t rd) (e rd))
  (block:=fun id _ ih rd σ h Q=>ih rd σ h (kw id Q)) (loop:=fun _ ih rd=>mO (ih rd))
  (rangeFunc:=fun g ps _ _ iha ihb rd=>match rd with|false=>nD S n g ps (iha true) (ihb true)|true=>fun _ _ _=>False)
  (exit:=fun id _ σ h Q=>Q (.exit id) σ h) (scope:=fun _ ih rd σ h Q=>ih rd σ h (BJ Q)) (label:=fun _ _ σ h Q=>Q .normal σ h) (goto:=fun _ _ _ _ _=>False)
  (ret:=fun _ σ h Q=>Q .ret σ h) (refuse:=fun _ _ _ _ _=>False) c
noncomputable abbrev vc (T:List (Nat×TI)) (S:bg) (n:Nat) (c:Code):vK:=y9 T S n c false
end Go.Vc
end
section
namespace Go.Vc
def fI (s:Bs):ByteArray:=⟨s.toArray⟩
def Placed (w:World) (N:Nat→Prop) (A:Option Addr) (cells:List Value):Prop:=
 cells=[]∨∃b o,A=some ⟨b,o,none⟩∧¬N b∧∀(j:Nat) (v:Value),cells[j]? =some v→w.cell? ⟨b,o+j,none⟩=some v
inductive Rd (w:World) (N:Nat→Prop):List D→List Value→Prop
 |nil:Rd w N [] []
 |int {ds cs} (k:IntKind) (n:Int):Rd w N ds cs→Rd w N (.int k n::ds) (.int k n::cs)
 |bool {ds cs} (b:Bool):Rd w N ds cs→Rd w N (.bool b::ds) (.bool b::cs)
 |str {ds cs} (s:Bs):s.length≤big→Rd w N ds cs→Rd w N (.str s::ds) (.string (fI s)::cs)
 |fn {ds cs} (f:FuncId):Rd w N ds cs→Rd w N (.fn f::ds) (.func (.func f) #[] #[]::cs)
 |raw {ds cs} (v:Value):v.oneCell'=true→Rd w N ds cs→Rd w N (.raw v::ds) (v::cs)
 |list {ds cs} (rows:List (List D)) (A:Option Addr) (cap sz:Nat) (cells:List Value):Rd w N rows.flatten cells→(∀r∈rows,r.length=sz)→Placed w N A cells→
   rows.length≤cap→rows.length≤big→Rd w N ds cs→Rd w N (.list rows::ds) (.slice A rows.length cap::cs)
theorem Rd.length {w:World} {N:Nat→Prop} {ds:List D} {cs:List Value} (h:Rd w N ds cs):cs.length=ds.length:=by
 induction h<;>simp_all
theorem Rd.one {w:World} {N:Nat→Prop} {ds:List D} {cs:List Value} (h:Rd w N ds cs):∀v∈cs,v.oneCell'=true:=by
 induction h<;>simp_all [Value.oneCell']
theorem Rd.append {w:World} {N:Nat→Prop} {ds es:List D} {cs fs:List Value} (h:Rd w N ds cs) (k:Rd w N es fs):Rd w N (ds++es) (cs++fs):=by
 induction h with
 |nil=>exact k
 |int a b _ ih=>exact .int a b ih
 |bool b _ ih=>exact .bool b ih
 |str s hs _ ih=>exact .str s hs ih
 |fn f _ ih=>exact .fn f ih
 |raw v hv _ ih=>exact .raw v hv ih
 |list rows A cap sz cells h1 h2 h3 h4 h5 _ _ ih=>exact .list rows A cap sz cells h1 h2 h3 h4 h5 ih
theorem Rd.split {w:World} {N:Nat→Prop}:∀{ds es:List D} {cs:List Value},Rd w N (ds++es) cs→∃c1 c2,cs=c1++c2∧Rd w N ds c1∧Rd w N es c2
 |[],_,cs,h=>⟨[],cs,rfl,.nil,h⟩
 |d::ds,es,_,h=>by
  cases h with
  |int k n h=>obtain ⟨c1,c2,rfl,h1,h2⟩:=Rd.split h;exact ⟨_::c1,c2,rfl,.int k n h1,h2⟩
  |bool b h=>obtain ⟨c1,c2,rfl,h1,h2⟩:=Rd.split h;exact ⟨_::c1,c2,rfl,.bool b h1,h2⟩
  |str s hs h=>obtain ⟨c1,c2,rfl,h1,h2⟩:=Rd.split h;exact ⟨_::c1,c2,rfl,.str s hs h1,h2⟩
  |fn f h=>obtain ⟨c1,c2,rfl,h1,h2⟩:=Rd.split h;exact ⟨_::c1,c2,rfl,.fn f h1,h2⟩
  |raw v hv h=>obtain ⟨c1,c2,rfl,h1,h2⟩:=Rd.split h;exact ⟨_::c1,c2,rfl,.raw v hv h1,h2⟩
  |list rows A cap sz cells h1 h2 h3 h4 h5 h=>obtain ⟨c1,c2,rfl,k1,k2⟩:=Rd.split h;exact ⟨_::c1,c2,rfl,.list rows A cap sz cells h1 h2 h3 h4 h5 k1,k2⟩
theorem Rd.drop {w:World} {N:Nat→Prop} {ds:List D} {cs:List Value} (h:Rd w N ds cs) (k:Nat):Rd w N (ds.drop k) (cs.drop k):=by
 have h':=h;have g:Rd w N (ds.take k++ds.drop k) cs:=by rw[QaL];exact h
 obtain ⟨c1,c2,rfl,h1,h2⟩:=Rd.split g;by_cases hk:k≤ds.length
 ·have:=h1.length
  rw[QaP,Nat.min_eq_left hk] at this;have e:(c1++c2).drop k=c2:=by rw[←this];exact List.drop_left
  rw[e];exact h2
 ·have:=h'.length
  rw[QaJ (l:=ds) (by omega),QaJ (l:=c1++c2) (by omega)];exact .nil
theorem Rd.take {w:World} {N:Nat→Prop} {ds:List D} {cs:List Value} (h:Rd w N ds cs) (k:Nat):Rd w N (ds.take k) (cs.take k):=by
 have h':=h;have g:Rd w N (ds.take k++ds.drop k) cs:=by rw[QaL];exact h
 obtain ⟨c1,c2,rfl,h1,h2⟩:=Rd.split g;by_cases hk:k≤ds.length
 ·have:=h1.length
  rw[QaP,Nat.min_eq_left hk] at this;have e:(c1++c2).take k=c1:=by rw[←this];exact List.take_left
  rw[e];exact h1
 ·have:=h'.length
  rw[QaK (l:=ds) (by omega),QaK (l:=c1++c2) (by omega)];exact h'
theorem eQ {a b:Nat} (h:a≠b):Qaa a b=false:=by
 cases e:Qaa a b with
 |false=>rfl
 |true=>exact absurd (Qae e) h
theorem ga (a:Nat):Qaa a a=true:=Nat.beq_refl a
theorem cell?_lt {w:World} {a:Addr} {v:Value} (h:w.cell? a=some v):a.block<w.heap.size:=by
 unfold World.cell? at h;rcases Qaq a.block w.heap.size with g|g
 ·exact g
 ·rw[Array.getElem?_eq_none g] at h
  cases h
structure Mv (w:World) (N:Nat→Prop) (w':World) (N':Nat→Prop):Prop where
 size:w.heap.size≤w'.heap.size
 blk:∀b,b<w.heap.size→¬N b→¬N' b∧w'.heap[b]? =w.heap[b]?
theorem Mv.refl (w:World) (N:Nat→Prop):Mv w N w N:=⟨Qag _,fun _ _ h=>⟨h,rfl⟩⟩
theorem Placed.mv {w w':World} {N N':Nat→Prop} (m:Mv w N w' N') {A:Option Addr} {cells:List Value} (h:Placed w N A cells):Placed w' N' A cells:=by
 rcases h with h|⟨b,o,rfl,hb,hc⟩
 ·exact .inl h
 ·cases cells with
  |nil=>exact .inl rfl
  |cons c cs=>
   have h0:=cell?_lt (hc 0 c rfl);obtain ⟨g1,g2⟩:=m.blk b h0 hb;refine .inr ⟨b,o,rfl,g1,fun j v hv=>?_⟩;rw[World.cell?_of_block (w:=w) (a:=⟨b,o+j,none⟩) g2];exact hc j v hv
theorem Rd.mv {w w':World} {N N':Nat→Prop} (m:Mv w N w' N') {ds:List D} {cs:List Value} (h:Rd w N ds cs):Rd w' N' ds cs:=by
 induction h with
 |nil=>exact .nil
 |int a b _ ih=>exact .int a b ih
 |bool b _ ih=>exact .bool b ih
 |str s hs _ ih=>exact .str s hs ih
 |fn f _ ih=>exact .fn f ih
 |raw v hv _ ih=>exact .raw v hv ih
 |list rows A cap sz cells _ h2 h3 h4 h5 _ ih1 ih2=>exact .list rows A cap sz cells ih1 h2 (h3.mv m) h4 h5 ih2
def ac:Value→Value
 | .tuple xs=>xs.getD 0 undef
 | .agg xs=>xs.getD 0 undef
 |v=>v
theorem dc {v:Value} {A:Option Addr} {n c:Nat} (h:ac v= .slice A n c):v≠undef:=by
 rintro rfl;simp[ac,undef] at h
theorem xy {v:Value} {xs:Array Value} {k:Nat} {β:Value} (h:v= .tuple xs) (h2:xs[k]? =some β):v≠undef:=by
 rw[h];intro e;have e2:xs= #[]:=by simpa [undef] using e
 subst e2;simp at h2
inductive Rv (w:World) (N:Nat→Prop) (ν:Nat→Value):List AV→List Value→Prop
 |nil:Rv w N ν [] []
 |any {as vs} (v:Value):Rv w N ν as vs→Rv w N ν (.any::as) (v::vs)
 |d {as vs x v}:Rd w N [x] [v]→Rv w N ν as vs→Rv w N ν (.d x::as) (v::vs)
 |nils {as vs}:Rv w N ν as vs→Rv w N ν (.nils::as) (.slice none 0 0::vs)
 |val {as vs} (v:Value):Rv w N ν as vs→Rv w N ν (.val v::as) (v::vs)
 |agg {as vs cs} (xs:List Value):Rv w N ν cs xs→Rv w N ν as vs→Rv w N ν (.agg cs::as) (.agg xs.toArray::vs)
 |tup {as vs cs} (xs:List Value):Rv w N ν cs xs→Rv w N ν as vs→Rv w N ν (.tup cs::as) (.tuple xs.toArray::vs)
 |ptr {as vs id b} (off:Nat):ν id= .pointer (some ⟨b,0,none⟩)→Rv w N ν as vs→Rv w N ν (.ptr id off::as) (.pointer (some ⟨b,off,none⟩)::vs)
 |at_ {as vs ds} (A:Addr) (cells:List Value):cells≠[]→Rd w N ds cells→Placed w N (some A) cells→Rv w N ν as vs→Rv w N ν (.at_ ds::as) (.pointer (some A)::vs)
 |rptr {as vs id b n c} (i off sz:Nat):ac (ν id)= .slice (some ⟨b,0,none⟩) n c→i<n→Rv w N ν as vs→Rv w N ν (.rptr id i sz off::as) (.pointer (some ⟨b,i*sz+off,none⟩)::vs)
 |own {as vs id A n c}:ac (ν id)= .slice A n c→Rv w N ν as vs→Rv w N ν (.own id::as) (.slice A n c::vs)
 |nest {as vs id xs β A n c} (i off m j:Nat):ν id= .tuple xs→xs[1+(i*m+j)]? =some β→ac β= .slice A n c→Rv w N ν as vs→Rv w N ν (.nest id i off m j::as) (.slice A n c::vs)
 |mapr {as vs id r}:ν id= .map (some r)→Rv w N ν as vs→Rv w N ν (.mapr id::as) (.map (some r)::vs)
 |fn {as vs cs} (f:FuncId) (xs:List Value):Rv w N ν cs xs→Rv w N ν as vs→Rv w N ν (.fn f cs::as) (.func (.func f) #[] xs.toArray::vs)
 |bfn {as vs cs} (f:FuncId) (xs:List Value):Rv w N ν cs xs→Rv w N ν as vs→Rv w N ν (.bfn f cs::as) (.func (.func f) xs.toArray #[]::vs)
 |iface {as vs x v} (t:TypeId):Rv w N ν [x] [v]→Rv w N ν as vs→Rv w N ν (.iface t x::as) (.iface t v::vs)
section
variable {w w':World} {N N':Nat→Prop} {ν ν' ν0:Nat→Value}
theorem Rv.length {as:List AV} {vs:List Value} (h:Rv w N ν as vs):vs.length=as.length:=by
 induction h<;>simp_all
theorem Rv.mv (m:Mv w N w' N') (hν:∀id,ν id≠undef→ν' id=ν id) {as:List AV} {vs:List Value} (h:Rv w N ν as vs):Rv w' N' ν' as vs:=by
 induction h with
 |nil=>exact .nil
 |any v _ ih=>exact .any v ih
 |d h _ ih=>exact .d (h.mv m) ih
 |nils _ ih=>exact .nils ih
 |val v _ ih=>exact .val v ih
 |agg xs _ _ ih1 ih2=>exact .agg xs ih1 ih2
 |tup xs _ _ ih1 ih2=>exact .tup xs ih1 ih2
 |ptr off h _ ih=>exact .ptr off (by rw[hν _ (by rw[h];simp[undef]),h]) ih
 |at_ A cells h0 h1 h2 _ ih=>exact .at_ A cells h0 (h1.mv m) (h2.mv m) ih
 |rptr i off sz h hi _ ih=>exact .rptr i off sz (by rw[hν _ (dc h),h]) hi ih
 |own h _ ih=>exact .own (by rw[hν _ (dc h),h]) ih
 |nest i off m j h1 h2 h3 _ ih=>exact .nest i off m j (by rw[hν _ (xy h1 h2),h1]) h2 h3 ih
 |mapr h _ ih=>exact .mapr (by rw[hν _ (by rw[h];simp[undef]),h]) ih
 |fn f xs _ _ ih1 ih2=>exact .fn f xs ih1 ih2
 |bfn f xs _ _ ih1 ih2=>exact .bfn f xs ih1 ih2
 |iface t _ _ ih1 ih2=>exact .iface t ih1 ih2
theorem Rv.sub (m:Mv w N w' N') {i:Nat} {b:AV} (hν:∀id,id≠i→ν id≠undef→ν' id=ν id) (hb:∀A n c,ac (ν i)= .slice A n c→Rv w' N' ν' [b] [.slice A n c]):
 ∀{as:List AV} {vs:List Value},Rv w N ν as vs→Rv w' N' ν' (bu i b as) vs:=by
 intro as vs h
 induction h with
 |nil=>simp only[bu];exact .nil
 |any v _ ih=>simp only[bu,AV.sub];exact .any v ih
 |d h _ ih=>simp only[bu,AV.sub];exact .d (h.mv m) ih
 |nils _ ih=>simp only[bu,AV.sub];exact .nils ih
 |val v _ ih=>simp only[bu,AV.sub];exact .val v ih
 |agg xs _ _ ih1 ih2=>simp only[bu,AV.sub];exact .agg xs ih1 ih2
 |tup xs _ _ ih1 ih2=>simp only[bu,AV.sub];exact .tup xs ih1 ih2
 |@ptr as vs id b' off h _ ih=>
  simp only[bu,AV.sub];by_cases e:id=i
  ·rw[show Qaa id i=true from by simpa using e];exact .any _ ih
  ·rw[show Qaa id i=false from eQ e];exact .ptr off (by rw[hν _ e (by rw[h];simp[undef]),h]) ih
 |at_ A cells h0 h1 h2 _ ih=>simp only[bu,AV.sub];exact .at_ A cells h0 (h1.mv m) (h2.mv m) ih
 |@rptr as vs id b' n c i' off sz h hi _ ih=>
  simp only[bu,AV.sub];by_cases e:id=i
  ·rw[show Qaa id i=true from by simpa using e];exact .any _ ih
  ·rw[show Qaa id i=false from eQ e];exact .rptr i' off sz (by rw[hν _ e (dc h),h]) hi ih
 |@own as vs id A n c h _ ih=>
  simp only[bu,AV.sub];by_cases e:id=i
  ·rw[show Qaa id i=true from by simpa using e]
   subst e;have:=hb A n c h
   cases hb A n c h with
   |any=>exact .any _ ih
   |d h1=>exact .d h1 ih
   |nils=>exact .nils ih
   |val=>exact .val _ ih
   |own h1=>exact .own h1 ih
   |nest k off m j h1 h2 h3=>exact .nest k off m j h1 h2 h3 ih
  ·rw[show Qaa id i=false from eQ e];exact .own (by rw[hν _ e (dc h),h]) ih
 |@nest as vs id xs β A n c k off m j h1 h2 h3 _ ih=>
  simp only[bu,AV.sub];by_cases e:id=i
  ·rw[show Qaa id i=true from by simpa using e];exact .any _ ih
  ·rw[show Qaa id i=false from eQ e];exact .nest k off m j (by rw[hν _ e (xy h1 h2),h1]) h2 h3 ih
 |@mapr as vs id r h _ ih=>
  simp only[bu,AV.sub];by_cases e:id=i
  ·rw[show Qaa id i=true from by simpa using e];exact .any _ ih
  ·rw[show Qaa id i=false from eQ e];exact .mapr (by rw[hν _ e (by rw[h];simp[undef]),h]) ih
 |fn f xs _ _ ih1 ih2=>simp only[bu,AV.sub];exact .fn f xs ih1 ih2
 |bfn f xs _ _ ih1 ih2=>simp only[bu,AV.sub];exact .bfn f xs ih1 ih2
 |iface t _ _ ih1 ih2=>
  simp only[bu,AV.sub] at ih1 ⊢;exact .iface t ih1 ih2
theorem Rv.cons_inv {a:AV} {as:List AV} {vs:List Value} (h:Rv w N ν (a::as) vs):∃v r,vs=v::r∧Rv w N ν [a] [v]∧Rv w N ν as r:=by
 cases h with
 |any v h=>exact ⟨_,_,rfl,.any v .nil,h⟩
 |d h1 h=>exact ⟨_,_,rfl,.d h1 .nil,h⟩
 |nils h=>exact ⟨_,_,rfl,.nils .nil,h⟩
 |val v h=>exact ⟨_,_,rfl,.val v .nil,h⟩
 |agg xs h1 h=>exact ⟨_,_,rfl,.agg xs h1 .nil,h⟩
 |tup xs h1 h=>exact ⟨_,_,rfl,.tup xs h1 .nil,h⟩
 |ptr off h1 h=>exact ⟨_,_,rfl,.ptr off h1 .nil,h⟩
 |at_ A cells h0 h1 h2 h=>exact ⟨_,_,rfl,.at_ A cells h0 h1 h2 .nil,h⟩
 |rptr i off sz h1 h2 h=>exact ⟨_,_,rfl,.rptr i off sz h1 h2 .nil,h⟩
 |own h1 h=>exact ⟨_,_,rfl,.own h1 .nil,h⟩
 |nest i off m j h1 h2 h3 h=>exact ⟨_,_,rfl,.nest i off m j h1 h2 h3 .nil,h⟩
 |mapr h1 h=>exact ⟨_,_,rfl,.mapr h1 .nil,h⟩
 |fn f xs h1 h=>exact ⟨_,_,rfl,.fn f xs h1 .nil,h⟩
 |bfn f xs h1 h=>exact ⟨_,_,rfl,.bfn f xs h1 .nil,h⟩
 |iface t h1 h=>exact ⟨_,_,rfl,.iface t h1 .nil,h⟩
theorem Rv.cons {a:AV} {v:Value} (h:Rv w N ν [a] [v]) {as:List AV} {vs:List Value} (k:Rv w N ν as vs):Rv w N ν (a::as) (v::vs):=by
 cases h with
 |any v h=>exact .any v k
 |d h1 h=>exact .d h1 k
 |nils h=>exact .nils k
 |val v h=>exact .val v k
 |agg xs h1 h=>exact .agg xs h1 k
 |tup xs h1 h=>exact .tup xs h1 k
 |ptr off h1 h=>exact .ptr off h1 k
 |at_ A cells h0 h1 h2 h=>exact .at_ A cells h0 h1 h2 k
 |rptr i off sz h1 h2 h=>exact .rptr i off sz h1 h2 k
 |own h1 h=>exact .own h1 k
 |nest i off m j h1 h2 h3 h=>exact .nest i off m j h1 h2 h3 k
 |mapr h1 h=>exact .mapr h1 k
 |fn f xs h1 h=>exact .fn f xs h1 k
 |bfn f xs h1 h=>exact .bfn f xs h1 k
 |iface t h1 h=>exact .iface t h1 k
theorem Rv.append {as bs:List AV} {vs us:List Value} (h:Rv w N ν as vs) (k:Rv w N ν bs us):Rv w N ν (as++bs) (vs++us):=by
 induction as generalizing vs with
 |nil=>cases h;exact k
 |cons a as ih=>
  obtain ⟨v,r,rfl,h1,h2⟩:=h.cons_inv;exact h1.cons (ih h2)
theorem Rv.drop {as:List AV} {vs:List Value} (h:Rv w N ν as vs) (k:Nat):Rv w N ν (as.drop k) (vs.drop k):=by
 induction k generalizing as vs with
 |zero=>exact h
 |succ k ih=>
  cases as with
  |nil=>cases h;exact .nil
  |cons a as=>obtain ⟨v,r,rfl,_,h2⟩:=h.cons_inv;exact ih h2
theorem Rv.take {as:List AV} {vs:List Value} (h:Rv w N ν as vs) (k:Nat):Rv w N ν (as.take k) (vs.take k):=by
 induction k generalizing as vs with
 |zero=>exact .nil
 |succ k ih=>
  cases as with
  |nil=>cases h;exact .nil
  |cons a as=>obtain ⟨v,r,rfl,h1,h2⟩:=h.cons_inv;exact h1.cons (ih h2)
theorem Rv.get {as:List AV} {vs:List Value} (h:Rv w N ν as vs) {k:Nat} {a:AV} (hk:as[k]? =some a):∃v,vs[k]? =some v∧Rv w N ν [a] [v]:=by
 induction k generalizing as vs with
 |zero=>
  cases as with
  |nil=>cases hk
  |cons x as=>obtain ⟨v,r,rfl,h1,_⟩:=h.cons_inv;simp at hk;subst hk;exact ⟨v,rfl,h1⟩
 |succ k ih=>
  cases as with
  |nil=>cases hk
  |cons x as=>obtain ⟨v,r,rfl,_,h2⟩:=h.cons_inv;exact ih h2 (by simpa using hk)
theorem y7 {ds:List D} {cs:List Value} (h:Rd w N ds cs):Rv w N ν (ds.map .d) cs:=by
 induction h with
 |nil=>exact .nil
 |int a b _ ih=>exact .d (.int a b .nil) ih
 |bool b _ ih=>exact .d (.bool b .nil) ih
 |str s hs _ ih=>exact .d (.str s hs .nil) ih
 |fn f _ ih=>exact .d (.fn f .nil) ih
 |raw v hv _ ih=>exact .d (.raw v hv .nil) ih
 |list rows A cap sz cells h1 h2 h3 h4 h5 _ _ ih=>exact .d (.list rows A cap sz cells h1 h2 h3 h4 h5 .nil) ih
theorem Rv.dsOf {as:List AV} {vs:List Value} {ds:List D} (h:Rv w N ν as vs) (hd:dsOf as=some ds):Rd w N ds vs:=by
 induction as generalizing vs ds with
 |nil=>cases h;simp[Vc.dsOf] at hd;subst hd;exact .nil
 |cons a as ih=>
  obtain ⟨v,r,rfl,h1,h2⟩:=h.cons_inv;unfold Vc.dsOf at hd;split at hd
  ·rename_i e;cases e
  ·rename_i x r' e
   injection e with e1 e2
   subst e1 e2;simp only[Qan] at hd;obtain ⟨ds',hd',rfl⟩:=hd
   cases h1 with
   |d h3=>exact h3.append (ih h2 hd')
  ·rename_i r' e
   injection e with e1 e2
   subst e1 e2;simp only[Qan] at hd;obtain ⟨ds',hd',rfl⟩:=hd
   cases h1 with
   |nils _=>exact .list [] none 0 0 [] .nil (by simp) (.inl rfl) (Qag _) (Qaz _) (ih h2 hd')
  ·rename_i f r' e
   injection e with e1 e2
   subst e1 e2;simp only[Qan] at hd;obtain ⟨ds',hd',rfl⟩:=hd
   cases h1 with
   |fn _ xs h3 _=>cases h3;exact .fn f (ih h2 hd')
  ·cases hd
theorem Rv.oneCell {a:AV} {v:Value} (h:Rv w N ν [a] [v]) (h1:a.one=true):v.oneCell'=true:=by
 cases h with
 |d h _=>exact h.one _ (by simp)
 |_=>simp_all [AV.one,Value.oneCell']
theorem Rv.oneL {as:List AV} {vs:List Value} (h:Rv w N ν as vs) (h1:oneL as=true):∀v∈vs,v.oneCell'=true:=by
 induction as generalizing vs with
 |nil=>cases h;simp
 |cons a as ih=>
  obtain ⟨v,r,rfl,h2,h3⟩:=h.cons_inv;simp[Vc.oneL] at h1;intro u hu;rcases List.mem_cons.1 hu with rfl|hu
  ·exact h2.oneCell h1.1
  ·exact ih h3 h1.2 u hu
theorem Rv.noOwn (m:Mv w N w' N') (hν:∀id,ν id≠undef→(∀A k c,ac (ν id)≠ .slice A k c)→ν' id=ν id):∀{as:List AV} {vs:List Value},Rv w N ν as vs→Rv w' N' ν' (aT as) vs:=by
 intro as vs h
 induction h with
 |nil=>simp only[aT];exact .nil
 |any v _ ih=>simp only[aT,AV.noOwn];exact .any v ih
 |d h _ ih=>simp only[aT,AV.noOwn];exact .d (h.mv m) ih
 |nils _ ih=>simp only[aT,AV.noOwn];exact .nils ih
 |val v _ ih=>simp only[aT,AV.noOwn];exact .val v ih
 |agg xs _ _ ih1 ih2=>simp only[aT,AV.noOwn];exact .agg xs ih1 ih2
 |tup xs _ _ ih1 ih2=>simp only[aT,AV.noOwn];exact .tup xs ih1 ih2
 |ptr off h _ ih=>simp only[aT,AV.noOwn];exact .ptr off (by rw[hν _ (by rw[h];simp[undef]) (by rw[h];simp[ac]),h]) ih
 |at_ A cells h0 h1 h2 _ ih=>simp only[aT,AV.noOwn];exact .at_ A cells h0 (h1.mv m) (h2.mv m) ih
 |rptr i off sz h hi _ ih=>simp only[aT,AV.noOwn];exact .any _ ih
 |own h _ ih=>simp only[aT,AV.noOwn];exact .any _ ih
 |nest _ _ _ _ _ _ _ _ ih=>simp only[aT,AV.noOwn];exact .any _ ih
 |mapr h _ ih=>simp only[aT,AV.noOwn];exact .mapr (by rw[hν _ (by rw[h];simp[undef]) (by rw[h];simp[ac]),h]) ih
 |fn f xs _ _ ih1 ih2=>simp only[aT,AV.noOwn];exact .fn f xs ih1 ih2
 |bfn f xs _ _ ih1 ih2=>simp only[aT,AV.noOwn];exact .bfn f xs ih1 ih2
 |iface t _ _ ih1 ih2=>simp only[aT,AV.noOwn] at ih1 ⊢;exact .iface t ih1 ih2
def Same (x y:Value):Prop:=y=x∨∃A n c,ac x= .slice A n c∧ac y= .slice A n c
theorem Same.root {x y:Value} (h:Same x y) {A:Option Addr} {n c:Nat} (e:ac x= .slice A n c):ac y= .slice A n c:=by
 rcases h with h|⟨A',n',c',h1,h2⟩
 ·rw[h];exact e
 ·rw[h2,←h1,e]
theorem Same.ptr {x y:Value} (h:Same x y) {a:Option Addr} (e:x= .pointer a):y= .pointer a:=by
 rcases h with h|⟨A',n',c',h1,h2⟩
 ·rw[h];exact e
 ·rw[e] at h1;simp[ac] at h1
theorem Same.map {x y:Value} (h:Same x y) {a:Option Nat} (e:x= .map a):y= .map a:=by
 rcases h with h|⟨A',n',c',h1,h2⟩
 ·rw[h];exact e
 ·rw[e] at h1;simp[ac] at h1
theorem Rv.map (m:Mv w N w' N') {f:Nat→Option Nat} (hν:∀id j,f id=some j→ν id≠undef→Same (ν id) (ν' j)):∀{as:List AV} {vs:List Value},Rv w N ν as vs→Rv w' N' ν' (aG f as) vs:=by
 intro as vs h
 induction h with
 |nil=>simp only[aG];exact .nil
 |any v _ ih=>simp only[aG,AV.map];exact .any v ih
 |d h _ ih=>simp only[aG,AV.map];exact .d (h.mv m) ih
 |nils _ ih=>simp only[aG,AV.map];exact .nils ih
 |val v _ ih=>simp only[aG,AV.map];exact .val v ih
 |agg xs _ _ ih1 ih2=>simp only[aG,AV.map];exact .agg xs ih1 ih2
 |tup xs _ _ ih1 ih2=>simp only[aG,AV.map];exact .tup xs ih1 ih2
 |@ptr as vs id b off h _ ih=>
  simp only[aG,AV.map]
  cases hf:f id with
  |none=>exact .any _ ih
  |some j=>exact .ptr off ((hν _ _ hf (by rw[h];simp[undef])).ptr h) ih
 |at_ A cells h0 h1 h2 _ ih=>simp only[aG,AV.map];exact .at_ A cells h0 (h1.mv m) (h2.mv m) ih
 |@rptr as vs id b n c i off sz h hi _ ih=>
  simp only[aG,AV.map]
  cases hf:f id with
  |none=>exact .any _ ih
  |some j=>exact .rptr i off sz ((hν _ _ hf (dc h)).root h) hi ih
 |@own as vs id A n c h _ ih=>
  simp only[aG,AV.map]
  cases hf:f id with
  |none=>exact .any _ ih
  |some j=>exact .own ((hν _ _ hf (dc h)).root h) ih
 |nest _ _ _ _ _ _ _ _ ih=>simp only[aG,AV.map];exact .any _ ih
 |@mapr as vs id r h _ ih=>
  simp only[aG,AV.map]
  cases hf:f id with
  |none=>exact .any _ ih
  |some j=>exact .mapr ((hν _ _ hf (by rw[h];simp[undef])).map h) ih
 |fn f xs _ _ ih1 ih2=>simp only[aG,AV.map];exact .fn f xs ih1 ih2
 |bfn f xs _ _ ih1 ih2=>simp only[aG,AV.map];exact .bfn f xs ih1 ih2
 |iface t _ _ ih1 ih2=>simp only[aG,AV.map] at ih1 ⊢;exact .iface t ih1 ih2
theorem Rv.mapA (m:Mv w N w' N') {f:Nat→Option Nat} (hν:∀id j,f id=some j→ν' j=ν id):∀{as:List AV} {vs:List Value},Rv w N ν as vs→Rv w' N' ν' (bb f as) vs:=by
 intro as vs h
 induction h with
 |nil=>simp only[bb];exact .nil
 |any v _ ih=>simp only[bb,AV.mapA];exact .any v ih
 |d h _ ih=>simp only[bb,AV.mapA];exact .d (h.mv m) ih
 |nils _ ih=>simp only[bb,AV.mapA];exact .nils ih
 |val v _ ih=>simp only[bb,AV.mapA];exact .val v ih
 |agg xs _ _ ih1 ih2=>simp only[bb,AV.mapA];exact .agg xs ih1 ih2
 |tup xs _ _ ih1 ih2=>simp only[bb,AV.mapA];exact .tup xs ih1 ih2
 |@ptr as vs id b off h _ ih=>
  simp only[bb,AV.mapA]
  cases hf:f id with
  |none=>exact .any _ ih
  |some j=>exact .ptr off (by rw[hν _ _ hf,h]) ih
 |at_ A cells h0 h1 h2 _ ih=>simp only[bb,AV.mapA];exact .at_ A cells h0 (h1.mv m) (h2.mv m) ih
 |@rptr as vs id b n c i off sz h hi _ ih=>
  simp only[bb,AV.mapA]
  cases hf:f id with
  |none=>exact .any _ ih
  |some j=>exact .rptr i off sz (by rw[hν _ _ hf,h]) hi ih
 |@own as vs id A n c h _ ih=>
  simp only[bb,AV.mapA]
  cases hf:f id with
  |none=>exact .any _ ih
  |some j=>exact .own (by rw[hν _ _ hf,h]) ih
 |@nest as vs id xs β A n c i off k j h1 h2 h3 _ ih=>
  simp only[bb,AV.mapA]
  cases hf:f id with
  |none=>exact .any _ ih
  |some j'=>exact .nest i off k j (by rw[hν _ _ hf,h1]) h2 h3 ih
 |@mapr as vs id r h _ ih=>
  simp only[bb,AV.mapA]
  cases hf:f id with
  |none=>exact .any _ ih
  |some j=>exact .mapr (by rw[hν _ _ hf,h]) ih
 |fn f xs _ _ ih1 ih2=>simp only[bb,AV.mapA];exact .fn f xs ih1 ih2
 |bfn f xs _ _ ih1 ih2=>simp only[bb,AV.mapA];exact .bfn f xs ih1 ih2
 |iface t _ _ ih1 ih2=>simp only[bb,AV.mapA] at ih1 ⊢;exact .iface t ih1 ih2
def bN:List D→Option Value
 |[.int k n]=>some (.int k n)
 |[.str s]=>some (.string (fI s))
 |[.bool b]=>some (.bool b)
 |[.str a,.str b]=>some (.agg #[.string (fI a),.string (fI b)])
 |_=>none
inductive Km (w:World) (N:Nat→Prop) (ν:Nat→Value) (tk:TK):List (List D×AV)→List MapEntry→Prop
 |nil:Km w N ν tk [] []
 |cons {ks a es e l}:dt tk ks=true→bN ks=some e.key→Rv w N ν [a] [e.val]→Km w N ν tk es l→Km w N ν tk ((ks,a)::es) (e::l)
theorem Km.mv (m:Mv w N w' N') (hν:∀id,ν id≠undef→ν' id=ν id) {tk:TK} {es:List (List D×AV)} {l:List MapEntry} (h:Km w N ν tk es l):Km w' N' ν' tk es l:=by
 induction h with
 |nil=>exact .nil
 |cons h1 h2 h3 _ ih=>exact .cons h1 h2 (h3.mv m hν) ih
theorem Km.sub (m:Mv w N w' N') {i:Nat} {b:AV} (hν:∀id,id≠i→ν id≠undef→ν' id=ν id) (hb:∀A n c,ac (ν i)= .slice A n c→Rv w' N' ν' [b] [.slice A n c])
 {tk:TK} {es:List (List D×AV)} {l:List MapEntry} (h:Km w N ν tk es l):Km w' N' ν' tk (BF i b es) l:=by
 induction h with
 |nil=>exact .nil
 |cons h1 h2 h3 _ ih=>
  have:=h3.sub m hν hb;simp only[bu] at this;exact .cons h1 h2 this ih
theorem Km.map (m:Mv w N w' N') {f:Nat→Option Nat} (hν:∀id j,f id=some j→ν id≠undef→Same (ν id) (ν' j)) {tk:TK} {es:List (List D×AV)} {l:List MapEntry} (h:Km w N ν tk es l):Km w' N' ν' tk (eC f es) l:=by
 induction h with
 |nil=>exact .nil
 |cons h1 h2 h3 _ ih=>
  have:=h3.map m hν;simp only[aG] at this;exact .cons h1 h2 this ih
end
end Go.Vc
end
section
namespace Go.Vc
def bG:Value→Option Nat
 | .pointer (some a)=>some a.block
 | .slice (some a) _ _=>some a.block
 | .map (some r)=>some r
 |_=>none
inductive Ow:Value→Nat→Prop
 |leaf {v:Value} {b:Nat}:bG v=some b→Ow v b
 |sub {xs:Array Value} {x:Value} {b:Nat}:x∈xs.toList→Ow x b→Ow (.tuple xs) b
@[simp] theorem KO {b:Nat}:¬Ow (.tuple #[]) b:=by
  intro h
  cases h with
  |leaf h=>simp[bG] at h
  |sub h _=>simp at h
@[simp] theorem lm {b:Nat}:¬Ow undef b:=by
  intro h
  cases h with
  |leaf h=>simp[undef,bG] at h
  |sub h _=>simp[undef] at h
theorem B5 {v:Value} (hv:∀xs,v≠ .tuple xs) {b:Nat}:Ow v b↔bG v=some b:=
 ⟨fun h=>by cases h with|leaf h=>exact h|sub _ _=>exact absurd rfl (hv _),.leaf⟩
theorem ow_slice {A:Option Addr} {n c b:Nat}:Ow (.slice A n c) b↔bG (.slice A n c)=some b:=B5 (fun _ h=>by cases h)
theorem B4 {A:Option Addr} {b:Nat}:Ow (.pointer A) b↔bG (.pointer A)=some b:=B5 (fun _ h=>by cases h)
theorem Gf {r:Option Nat} {b:Nat}:Ow (.map r) b↔bG (.map r)=some b:=B5 (fun _ h=>by cases h)
def _root_.Go.World.ownRow (w:World) (base:Nat) (e:TypeId) (size:Nat) (v:Value) (n:Nat) (xs:List Value):Prop:=
 xs.length=n*size∧
 ((v= .slice none 0 0∧n=0)∨
  ∃g cap cur,v= .slice (some ⟨g,0,none⟩) n cap∧base≤g∧w.heap[g]? =some (.cells cur e (0,0))∧n≤cap∧cap≤maxLen∧cap*size≤cur.size∧cur.toList.take (n*size)=xs)
theorem ez {w w':World} {t sz k:Nat} {v:Value} {cells:List Value} (h:w.ownRow 0 t sz v k cells) (hb:∀b,bG v=some b→w'.heap[b]? =w.heap[b]?):w'.ownRow 0 t sz v k cells:=by
 refine ⟨h.1,?_⟩;rcases h.2 with h|⟨g,cap,cur,rfl,h1,h2,h3⟩
 ·exact .inl h
 ·exact .inr ⟨g,cap,cur,rfl,h1,by rw[hb g rfl];exact h2,h3⟩
theorem i0 {w:World} {t sz k:Nat} {v:Value} {cells:List Value} (h:w.ownRow 0 t sz v k cells):∀b,bG v=some b→b<w.heap.size:=by
 intro b hb;rcases h.2 with ⟨rfl,_⟩|⟨g,cap,cur,rfl,_,h2,_⟩
 ·cases hb
 ·simp only[bG,Qab] at hb
  subst hb;exact (Array.getElem?_eq_some_iff.1 h2).1
theorem d5 {w:World} {N:Nat→Prop} {t sz k c:Nat} {A:Option Addr} {cells:List Value} (h:w.ownRow 0 t sz (.slice A k c) k cells) (hb:∀b,bG (.slice A k c)=some b→¬N b):Placed w N A cells∧k≤c:=by
 rcases h.2 with ⟨e,e2⟩|⟨g,cap,cur,e,_,h2,h3,_,_,h6⟩
 ·injection e with e1 e3 e4
  subst e2;exact ⟨.inl (List.eq_nil_of_length_eq_zero (by rw[h.1];simp)),by omega⟩
 ·injection e with e1 e3 e4
  subst e1 e4;refine ⟨.inr ⟨g,0,rfl,hb g rfl,fun j v hv=>?_⟩,h3⟩;rw[←h6,List.getElem?_take] at hv;split at hv
  ·simpa [World.cell?,h2] using hv
  ·cases hv
inductive Tr (w:World):List NT→List D→List Value→List Value→List Nat→Prop
 |nil:Tr w [] [] [] [] []
 |leaf {fs ds cs βs bs} (d:D) (v:Value):d.flat=true→(∀w N,Rd w N [d] [v])→Tr w fs ds cs βs bs→Tr w (.leaf::fs) (d::ds) (v::cs) βs bs
 |list {fs ds cs βs bs} (t sz:Nat) (fs':List NT) (rows:List (List D)) (A:Option Addr) (cap:Nat) (cells βs':List Value) (bs':List Nat):
   Tr w (List.replicate rows.length fs').flatten rows.flatten cells βs' bs'→(∀r∈rows,r.length=sz)→fs'.length=sz→0<sz→rows.length≤big→w.ownRow 0 t sz (.slice A rows.length cap) rows.length cells→
   Tr w fs ds cs βs bs→
   Tr w (.list t sz fs'::fs) (.list rows::ds) (.slice A rows.length cap::cs) (.tuple (.slice A rows.length cap::βs').toArray::βs) ((bG (.slice A rows.length cap)).toList++bs'++bs)
 |dead {fs ds cs βs bs} (t sz:Nat) (fs':List NT) (A:Option Addr) (m cap:Nat):fs'.length=sz→0<sz→Tr w fs ds cs βs bs→
   Tr w (.list t sz fs'::fs) (.raw (.slice A m cap)::ds) (.slice A m cap::cs) (.agg #[.slice A m cap]::βs) bs
def Tb (w:World) (t sz:Nat) (fs:List NT) (rows:List (List D)) (β:Value) (bs:List Nat):Prop:=
 ∃A cap cells βs bs',β= .tuple (.slice A rows.length cap::βs).toArray∧bs=(bG (.slice A rows.length cap)).toList++bs'∧Tr w (List.replicate rows.length fs).flatten rows.flatten cells βs bs'∧
  (∀r∈rows,r.length=sz)∧fs.length=sz∧0<sz∧rows.length≤big∧w.ownRow 0 t sz (.slice A rows.length cap) rows.length cells
section
variable {w w':World} {fs gs:List NT} {ds es:List D} {cs us βs γs:List Value} {bs ns:List Nat}
theorem Tr.keep (h:Tr w fs ds cs βs bs) (hb:∀b∈bs,w'.heap[b]? =w.heap[b]?):Tr w' fs ds cs βs bs:=by
 induction h with
 |nil=>exact .nil
 |leaf d v h1 h2 _ ih=>exact .leaf d v h1 h2 (ih hb)
 |list t sz fs' rows A cap cells βs' bs' _ h2 h3 h4 h5 h6 _ ih1 ih2=>
  simp only[Qar] at hb
  exact .list t sz fs' rows A cap cells βs' bs' (ih1 fun b g=>hb b (.inl (.inr g))) h2 h3 h4 h5 (ez h6 fun b g=>hb b (.inl (.inl (by simp[g])))) (ih2 fun b g=>hb b (.inr g))
 |dead t sz fs' A m cap h1 h2 _ ih=>exact .dead t sz fs' A m cap h1 h2 (ih hb)
theorem Tr.bnd (h:Tr w fs ds cs βs bs):∀b∈bs,b<w.heap.size:=by
 induction h with
 |nil=>simp
 |leaf d v h1 h2 _ ih=>exact ih
 |list t sz fs' rows A cap cells βs' bs' _ h2 h3 h4 h5 h6 _ ih1 ih2=>
  intro b hb;simp only[Qar,QaO] at hb;rcases hb with (hb|hb)|hb
  ·exact i0 h6 b hb
  ·exact ih1 b hb
  ·exact ih2 b hb
 |dead t sz fs' A m cap h1 h2 _ ih=>exact ih
theorem Tr.len (h:Tr w fs ds cs βs bs):ds.length=fs.length∧cs.length=fs.length∧βs.length=nl fs:=by
 induction h with
 |nil=>exact ⟨rfl,rfl,rfl⟩
 |leaf d v h1 h2 _ ih=>simp[ih.1,ih.2.1,ih.2.2,nl]
 |list t sz fs' rows A cap cells βs' bs' _ h2 h3 h4 h5 h6 _ ih1 ih2=>simp[ih2.1,ih2.2.1,ih2.2.2,nl]
 |dead t sz fs' A m cap h1 h2 _ ih=>simp[ih.1,ih.2.1,ih.2.2,nl]
theorem Tr.append (h:Tr w fs ds cs βs bs) (k:Tr w gs es us γs ns):Tr w (fs++gs) (ds++es) (cs++us) (βs++γs) (bs++ns):=by
 induction h with
 |nil=>exact k
 |leaf d v h1 h2 _ ih=>exact .leaf d v h1 h2 ih
 |list t sz fs' rows A cap cells βs' bs' h1 h2 h3 h4 h5 h6 _ ih1 ih2=>
  rw[Qam]
  exact .list t sz fs' rows A cap cells βs' bs' h1 h2 h3 h4 h5 h6 ih2
 |dead t sz fs' A m cap h1 h2 _ ih=>exact .dead t sz fs' A m cap h1 h2 ih
theorem Tr.split:∀{fs gs:List NT} {ds:List D} {cs βs:List Value} {bs:List Nat},Tr w (fs++gs) ds cs βs bs→
 ∃d1 d2 c1 c2 β1 β2 b1 b2,ds=d1++d2∧cs=c1++c2∧βs=β1++β2∧bs=b1++b2∧Tr w fs d1 c1 β1 b1∧Tr w gs d2 c2 β2 b2
 |[],gs,ds,cs,βs,bs,h=>⟨[],ds,[],cs,[],βs,[],bs,rfl,rfl,rfl,rfl,.nil,h⟩
 |f::fs,gs,ds,cs,βs,bs,h=>by
  cases h with
  |leaf d v h1 h2 h=>
   obtain ⟨d1,d2,c1,c2,β1,β2,b1,b2,rfl,rfl,rfl,rfl,g1,g2⟩:=Tr.split h
   exact ⟨d::d1,d2,v::c1,c2,β1,β2,b1,b2,rfl,rfl,rfl,rfl,.leaf d v h1 h2 g1,g2⟩
  |list t sz fs' rows A cap cells βs' bs' h1 h2 h3 h4 h5 h6 h=>
   obtain ⟨d1,d2,c1,c2,β1,β2,b1,b2,rfl,rfl,rfl,rfl,g1,g2⟩:=Tr.split h
   exact ⟨_::d1,d2,_::c1,c2,_::β1,β2,_,b2,rfl,rfl,rfl,by simp only[Qam],.list t sz fs' rows A cap cells βs' bs' h1 h2 h3 h4 h5 h6 g1,g2⟩
  |dead t sz fs' A m cap h1 h2 h=>
   obtain ⟨d1,d2,c1,c2,β1,β2,b1,b2,rfl,rfl,rfl,rfl,g1,g2⟩:=Tr.split h;exact ⟨_::d1,d2,_::c1,c2,_::β1,β2,b1,b2,rfl,rfl,rfl,rfl,.dead t sz fs' A m cap h1 h2 g1,g2⟩
theorem Tr.rd {N:Nat→Prop} (h:Tr w fs ds cs βs bs) (hb:∀b∈bs,¬N b):Rd w N ds cs:=by
 induction h with
 |nil=>exact .nil
 |leaf d v h1 h2 _ ih=>exact (h2 w N).append (ih hb)
 |list t sz fs' rows A cap cells βs' bs' _ h2 h3 h4 h5 h6 _ ih1 ih2=>
  simp only[Qar] at hb;obtain ⟨p1,p2⟩:=d5 (N:=N) h6 (fun b g=>hb b (.inl (.inl (by simp[g]))))
  exact .list rows A cap sz cells (ih1 fun b g=>hb b (.inl (.inr g))) h2 p1 p2 h5 (ih2 fun b g=>hb b (.inr g))
 |dead t sz fs' A m cap h1 h2 _ ih=>exact .raw _ rfl (ih hb)
theorem Tr.kindsL (h:Tr w fs ds cs βs bs):∀(t sz:Nat) (gs:List NT),NT.list t sz gs∈fs→gs.length=sz∧0<sz:=by
 induction h with
 |nil=>intro t sz gs hm;cases hm
 |leaf d v h1 h2 _ ih=>
  intro t sz gs hm;rcases List.mem_cons.1 hm with e|hm
  ·cases e
  ·exact ih _ _ _ hm
 |list t' sz' fs' rows A cap cells βs' bs' _ h2 h3 h4 h5 h6 _ ih1 ih2=>
  intro t sz gs hm;rcases List.mem_cons.1 hm with e|hm
  ·injection e with e1 e2 e3
   subst e1 e2 e3;exact ⟨h3,h4⟩
  ·exact ih2 _ _ _ hm
 |dead t' sz' fs' A m cap h1 h2 _ ih=>
  intro t sz gs hm;rcases List.mem_cons.1 hm with e|hm
  ·injection e with e1 e2 e3
   subst e1 e2 e3;exact ⟨h1,h2⟩
  ·exact ih _ _ _ hm
theorem Tr.one (h:Tr w fs ds cs βs bs):∀v∈cs,v.oneCell'=true:=(h.rd (N:=fun _=>False) (fun _ _ g=>g)).one
theorem Tr.ow (h:Tr w fs ds cs βs bs):∀b,(∃x∈βs,Ow x b)↔b∈bs:=by
 induction h with
 |nil=>simp
 |leaf d v h1 h2 _ ih=>exact ih
 |list t sz fs' rows A cap cells βs' bs' _ h2 h3 h4 h5 h6 _ ih1 ih2=>
  intro b;simp only[List.mem_cons,Qar,QaO];constructor
  ·rintro ⟨x,rfl|hx,ho⟩
   ·left
    cases ho with
    |leaf g=>cases g
    |sub hx ho=>
     simp only[List.mem_cons] at hx;rcases hx with rfl|hx
     ·rw[ow_slice] at ho;exact .inl ho
     ·exact .inr ((ih1 b).1 ⟨_,hx,ho⟩)
   ·exact .inr ((ih2 b).1 ⟨x,hx,ho⟩)
  ·rintro ((g|g)|g)
   ·exact ⟨_,.inl rfl,.sub (x:= .slice A rows.length cap) (by simp) (.leaf g)⟩
   ·obtain ⟨x,hx,ho⟩:=(ih1 b).2 g
    exact ⟨_,.inl rfl,.sub (x:=x) (by simp[hx]) ho⟩
   ·obtain ⟨x,hx,ho⟩:=(ih2 b).2 g
    exact ⟨x,.inr hx,ho⟩
 |dead t sz fs' A m cap h1 h2 _ ih=>
  intro b;rw[←ih b];constructor
  ·rintro ⟨x,hx,ho⟩
   rcases List.mem_cons.1 hx with rfl|hx
   ·cases ho with|leaf g=>cases g
   ·exact ⟨x,hx,ho⟩
  ·rintro ⟨x,hx,ho⟩
   exact ⟨x,Qax _ hx,ho⟩
theorem jY {t sz:Nat} {fs':List NT} {rows:List (List D)} {v β:Value} {b1 b2:List Nat} (h:Tb w t sz fs' rows β b1) (hv:ac β=v) (k:Tr w fs ds cs βs b2):
 Tr w (.list t sz fs'::fs) (.list rows::ds) (v::cs) (β::βs) (b1++b2):=by
 obtain ⟨A,cap,cells,βs',bs',rfl,rfl,h1,h2,h3,h4,h5,h6⟩:=h;subst hv;exact .list t sz fs' rows A cap cells βs' bs' h1 h2 h3 h4 h5 h6 k
theorem qs {t sz:Nat} {fs':List NT} {rows:List (List D)} (h:Tr w (.list t sz fs'::fs) (.list rows::ds) cs βs bs):
 ∃v us β γs b1 b2,cs=v::us∧βs=β::γs∧bs=b1++b2∧Tb w t sz fs' rows β b1∧ac β=v∧(∃A n c,v= .slice A n c)∧Tr w fs ds us γs b2:=by
 cases h with
 |list _ _ _ rows A cap cells βs' bs' h1 h2 h3 h4 h5 h6 k=>
  exact ⟨_,_,_,_,_,_,rfl,rfl,rfl,⟨A,cap,cells,βs',bs',rfl,rfl,h1,h2,h3,h4,h5,h6⟩,rfl,⟨_,_,_,rfl⟩,k⟩
variable {t sz:Nat} {rows:List (List D)} {β:Value}
theorem Tb.keep (h:Tb w t sz fs rows β bs) (hb:∀b∈bs,w'.heap[b]? =w.heap[b]?):Tb w' t sz fs rows β bs:=by
 obtain ⟨A,cap,cells,βs',bs',rfl,rfl,h1,h2,h3,h4,h5,h6⟩:=h;simp only[Qar] at hb;exact ⟨A,cap,cells,βs',bs',rfl,rfl,h1.keep fun b g=>hb b (.inr g),h2,h3,h4,h5,ez h6 fun b g=>hb b (.inl (by simp[g]))⟩
theorem Tb.ow (h:Tb w t sz fs rows β bs) (b:Nat):Ow β b↔b∈bs:=by
 have:=(jY (v:=ac β) h rfl .nil).ow b;simpa using this
theorem Tb.bnd (h:Tb w t sz fs rows β bs):∀b∈bs,b<w.heap.size:=by
 have:=(jY (v:=ac β) h rfl .nil).bnd;simpa using this
theorem Tb.root (h:Tb w t sz fs rows β bs):∃A c,ac β= .slice A rows.length c:=by
 obtain ⟨A,cap,cells,βs',bs',rfl,rfl,_⟩:=h;exact ⟨A,cap,rfl⟩
theorem Tb.rd {N:Nat→Prop} (h:Tb w t sz fs rows β bs) (hb:∀b∈bs,¬N b):Rd w N [.list rows] [ac β]:=(jY h rfl .nil).rd (by simpa using hb)
theorem Tb.ne (h:Tb w t sz fs rows β bs):β≠undef:=by
 obtain ⟨A,cap,cells,βs',bs',rfl,rfl,_⟩:=h;simp[undef]
end
def nN (N0:Nat→Prop) (ν:Nat→Value):Nat→Prop:=fun b=>N0 b∨∃id,Ow (ν id) b
def dw (ν:Nat→Value) (i:Nat) (v:Value):Nat→Value:=fun j=>if j=i then v else ν j
def Bu (arr:Array MapEntry) (clock:Nat):Prop:=clock=arr.size∧∀(j:Nat) (e:MapEntry),arr[j]? =some e→e.born=j
def Ro (w:World) (N:Nat→Prop) (ν:Nat→Value) (id:Nat):AO→Prop
 | .cells _ cs=>∃b arr e,ν id= .pointer (some ⟨b,0,none⟩)∧w.heap[b]? =some (.cells arr e (0,0))∧Rv w N ν cs arr.toList
 | .row t sz rows=>∃A c cells,ν id= .slice A rows.length c∧Rd w N rows.flatten cells∧(∀r∈rows,r.length=sz)∧rows.length≤big∧0<sz∧w.ownRow 0 t sz (ν id) rows.length cells
 | .tree t sz fs rows=>∃bs,Tb w t sz fs rows (ν id) bs∧bs.Nodup
 | .map _ tk es=>∃r arr clock,ν id= .map (some r)∧w.heap[r]? =some (.map arr clock)∧Km w N ν tk.base es arr.toList∧(tk.isDel=false→Bu arr clock)
def LwOk (N0:Nat→Prop) (w:World):Prop:=∀p∈LG,N0 p.1∧w.cell? ⟨p.1,0,none⟩=some p.2
theorem LwOk.mv {N0:Nat→Prop} {w w':World} (h:LwOk N0 w) (hb:∀b,N0 b→b<w.heap.size→w'.heap[b]? =w.heap[b]?):LwOk N0 w':=fun p hp=>by
 obtain ⟨h1,h2⟩:=h p hp;refine ⟨h1,?_⟩;rw[World.cell?_of_block (w:=w) (a:=⟨p.1,0,none⟩) (hb p.1 h1 (cell?_lt h2))];exact h2
structure Hp (N0:Nat→Prop) (w:World) (ν:Nat→Value) (h:Heap):Prop where
 objs:∀id o,look h.objs id=some o→Ro w (nN N0 ν) ν id o
 inj:∀i j b,Ow (ν i) b→Ow (ν j) b→i=j
 bnd:∀i b,Ow (ν i) b→b<w.heap.size
 dom:∀i,h.nx≤i→ν i=undef
 n0:∀b,N0 b→b<w.heap.size
 dis:∀i b,Ow (ν i) b→¬N0 b
 lw:LwOk N0 w
theorem Hp.root {N0:Nat→Prop} {w:World} {ν:Nat→Value} {h:Heap} (hp:Hp N0 w ν h) {i t sz:Nat} {rows:List (List D)} (hl:look h.objs i=some (.row t sz rows)):ac (ν i)=ν i:=by
 obtain ⟨A,c,cells,h1,_⟩:=hp.objs _ _ hl;rw[h1];rfl
structure Kp (Nf:Nat→Prop) (w0 w:World):Prop where
 os:w.os=w0.os
 tape:w.tape=w0.tape
 output:w.output=w0.output
 size:w0.heap.size≤w.heap.size
 blk:∀b,b<w0.heap.size→¬Nf b→w.heap[b]? =w0.heap[b]?
theorem Kp.refl (Nf:Nat→Prop) (w:World):Kp Nf w w:=⟨rfl,rfl,rfl,Qag _,fun _ _ _=>rfl⟩
theorem Kp.trans {Nf Ng:Nat→Prop} {a b c:World} (h:Kp Nf a b) (k:Kp Ng b c) (hN:∀x,x<a.heap.size→Ng x→Nf x):Kp Nf a c:=
 ⟨k.os.trans h.os,k.tape.trans h.tape,k.output.trans h.output,Qat h.size k.size,fun x hx hn=>(k.blk x (Qai hx h.size) (fun g=>hn (hN x hx g))).trans (h.blk x hx hn)⟩
structure Md where
 nd:Bool
 fx:Bool
 tl:List Deferred
def Aq (D:Nat):Deferred:={target:= .collected D,args:= #[]}
def Dfr (q:Md) (w0 w:World) (ν:Nat→Value) (ds:List Deferred):Prop:=(q.nd=true→ds=q.tl)∧
 ∃Ds:List Nat,ds=Ds.map Aq++q.tl∧Ds.Nodup∧∀D∈Ds,w0.heap.size≤D∧w.heap[D]? =some (.deferred (some []))∧∀i,¬Ow (ν i) D
theorem Dfr.mv {q:Md} {w0 w w':World} {ν ν':Nat→Value} {ds:List Deferred} (h:Dfr q w0 w ν ds) (hb:∀b,b<w.heap.size→(∀i,¬Ow (ν i) b)→w'.heap[b]? =w.heap[b]?)
 (hν:∀i b,Ow (ν' i) b→(∃j,Ow (ν j) b)∨w.heap.size≤b):Dfr q w0 w' ν' ds:=by
 obtain ⟨h0,Ds,h1,h2,h3⟩:=h;refine ⟨h0,Ds,h1,h2,fun D hD=>?_⟩;obtain ⟨g1,g2,g3⟩:=h3 D hD;have hlt:D<w.heap.size:=(Array.getElem?_eq_some_iff.1 g2).1;refine ⟨g1,by rw[hb D hlt g3];exact g2,fun i e=>?_⟩;rcases hν i D e with ⟨j,g⟩|g
 ·exact g3 j g
 ·omega
theorem Dfr.nil (q:Md) (w0 w:World) (ν:Nat→Value) (h:q.tl=[]:=by rfl):Dfr q w0 w ν []:=⟨fun _=>h.symm,[],h.symm,List.nodup_nil,fun _ h=>by cases h⟩
structure St (q:Md) (N0:Nat→Prop) (w0:World) (Nf:Nat→Prop) (n:Nat) (ν0:Nat→Value) (σ:Env) (h:Heap) (a:Act) (w:World) (ν:Nat→Value):Prop where
 slots:∀k,Rv w (nN N0 ν) ν [σ k] [a.tmps.getD k undef]
 hp:Hp N0 w ν h
 kp:Kp Nf w0 w
 fresh:∀i b,Ow (ν i) b→w0.heap.size≤b∨Nf b
 size:a.tmps.size=n
 defers:Dfr q w0 w ν a.defers
 keep:(∀i,ν0 i≠undef→(∀A m c,ac (ν0 i)≠ .slice A m c)→ν i=ν0 i)∧(q.fx=true→∀i,ν0 i≠undef→ac (ν i)=ac (ν0 i))
 low:h.lo≤h.nx∧∀i,h.lo≤i→ν0 i=undef
section
variable {q:Md} {N0 Nf:Nat→Prop} {w0 w w':World} {n:Nat} {σ:Env} {h:Heap} {a:Act} {ν ν' ν0:Nat→Value}
theorem GV (a:Act) (d:Option Nat) (v:Value) (k:Nat):(a.put d v).tmps.getD k undef=match d with
 |none=>a.tmps.getD k undef
 |some d=>if k=d∧d<a.tmps.size then v else a.tmps.getD k undef:=by
 cases d with
 |none=>rfl
 |some d=>
  simp only[Act.put,Array.getD_eq_getD_getElem?,Array.getElem?_setIfInBounds];by_cases h1:d=k
  ·subst h1
   by_cases h2:d<a.tmps.size
   ·simp[h2]
   ·simp[h2]
  ·rw[if_neg h1,if_neg (fun h=>h1 h.1.symm)]
theorem e9 (a:Act) (d:Option Nat) (v:Value):(a.put d v).tmps.size=a.tmps.size:=by
 cases d<;>simp[Act.put]
theorem dq (a:Act) (d:Option Nat) (v:Value):(a.put d v).defers=a.defers:=by
 cases d<;>simp[Act.put]
theorem dA {w:World} {N:Nat→Prop} (hs:∀k,Rv w N ν [σ k] [a.tmps.getD k undef]) (hn:a.tmps.size=n) (d:Option Nat) {r:AV} {v:Value} (hr:Rv w N ν [r] [v]):
 ∀k,Rv w N ν [(σ.putO n d r) k] [(a.put d v).tmps.getD k undef]:=by
 intro k;rw[GV]
 cases d with
 |none=>exact hs k
 |some d=>
  simp only[Env.putO];by_cases h2:d<a.tmps.size
  ·rw[show Qad (d+1) n=true from by rw[Nat.ble_eq];omega]
   simp only[cond_true,Env.put];by_cases h1:k=d
   ·subst h1;rw[ga,if_pos ⟨rfl,h2⟩];exact hr
   ·rw[eQ h1,if_neg (fun h=>h1 h.1)];exact hs k
  ·rw[show Qad (d+1) n=false from by cases e:Qad (d+1) n;rfl;rw[Nat.ble_eq] at e;omega]
   rw[if_neg (fun h=>h2 h.2)];exact hs k
theorem Hp.mvN (hp:Hp N0 w ν h) (hsz:w.heap.size≤w'.heap.size) (tb:Nat→Prop) (hb:∀b,b<w.heap.size→¬tb b→w'.heap[b]? =w.heap[b]?) (htb:∀b,tb b→nN N0 ν b)
 (hnew:∀id b,Ow (ν' id) b→Ow (ν id) b∨w.heap.size≤b):Mv w (nN N0 ν) w' (nN N0 ν'):=by
 refine ⟨hsz,fun b hlt hN=>⟨?_,hb b hlt (fun g=>hN (htb b g))⟩⟩;rintro (g|⟨id,g⟩)
 ·exact hN (.inl g)
 ·rcases hnew id b g with g|g
  ·exact hN (.inr ⟨id,g⟩)
  ·omega
theorem Ro.keep {N N':Nat→Prop} (m:Mv w N w' N') (hν:∀id,ν id≠undef→ν' id=ν id) {id:Nat} {o:AO} (hb:∀b,Ow (ν id) b→w'.heap[b]? =w.heap[b]?)
 (hr:Ro w N ν id o):Ro w' N' ν' id o:=by
 cases o with
 |cells t cs=>
  obtain ⟨b,arr,e,h1,h2,h3⟩:=hr;refine ⟨b,arr,e,?_,?_,h3.mv m hν⟩
  ·rw[hν id (by rw[h1];simp[undef]),h1]
  ·rw[hb b (by rw[h1];exact .leaf rfl)];exact h2
 |row t sz rows=>
  obtain ⟨A,c,cells,h1,h2,h3,h4,h5,h6⟩:=hr;have e:ν' id=ν id:=hν id (by rw[h1];simp[undef]);refine ⟨A,c,cells,by rw[e,h1],h2.mv m,h3,h4,h5,?_⟩;rw[e]
  exact ez h6 fun b h=>hb b (.leaf h)
 |tree t sz fs rows=>
  obtain ⟨bs,h1,h2⟩:=hr;refine ⟨bs,?_,h2⟩;rw[hν id h1.ne]
  exact h1.keep fun b g=>hb b ((h1.ow b).2 g)
 |map t tk es=>
  obtain ⟨r,arr,clock,h1,h2,h3,hB⟩:=hr;exact ⟨r,arr,clock,by rw[hν id (by rw[h1];simp[undef]),h1],by rw[hb r (by rw[h1];exact .leaf rfl)];exact h2,h3.mv m hν,hB⟩
theorem uG {N N':Nat→Prop} (m:Mv w N w' N') {i:Nat} {by_:AV} (hν:∀id,id≠i→ν id≠undef→ν' id=ν id) (hby:∀A n c,ac (ν i)= .slice A n c→Rv w' N' ν' [by_] [.slice A n c])
 {id:Nat} {o:AO} (hid:id≠i) (hb:∀b,Ow (ν id) b→w'.heap[b]? =w.heap[b]?) (hr:Ro w N ν id o):Ro w' N' ν' id (o.sub i by_):=by
 cases o with
 |cells t cs=>
  obtain ⟨b,arr,e,h1,h2,h3⟩:=hr;refine ⟨b,arr,e,?_,?_,h3.sub m hν hby⟩
  ·rw[hν id hid (by rw[h1];simp[undef]),h1]
  ·rw[hb b (by rw[h1];exact .leaf rfl)];exact h2
 |row t sz rows=>
  obtain ⟨A,c,cells,h1,h2,h3,h4,h5,h6⟩:=hr;have e:ν' id=ν id:=hν id hid (by rw[h1];simp[undef]);refine ⟨A,c,cells,by rw[e,h1],h2.mv m,h3,h4,h5,?_⟩;rw[e]
  exact ez h6 fun b h=>hb b (.leaf h)
 |tree t sz fs rows=>
  obtain ⟨bs,h1,h2⟩:=hr;refine ⟨bs,?_,h2⟩;rw[hν id hid h1.ne]
  exact h1.keep fun b g=>hb b ((h1.ow b).2 g)
 |map t tk es=>
  obtain ⟨r,arr,clock,h1,h2,h3,hB⟩:=hr;exact ⟨r,arr,clock,by rw[hν id hid (by rw[h1];simp[undef]),h1],by rw[hb r (by rw[h1];exact .leaf rfl)];exact h2,h3.sub m hν hby,hB⟩
theorem gw (l:List (Nat×AO)) (i j:Nat) (x:AO):look (gm i x l) j=if j=i then (look l i).map (fun _=>x) else look l j:=by
 induction l with
 |nil=>simp[gm,look]
 |cons p l ih=>
  obtain ⟨k,o⟩:=p;by_cases hki:k=i
  ·subst hki
   simp only[gm,ga,cond_true,look];by_cases hj:j=k
   ·subst hj;simp[ga]
   ·simp[eQ hj,hj]
  ·simp only[gm,eQ hki,cond_false,look]
   by_cases hj:j=k
   ·subst hj;simp[ga,hki]
   ·simp only[eQ hj,cond_false,ih]
    by_cases hji:j=i
    ·subst hji;simp[eQ hj]
    ·simp[hji]
theorem p9 (l:List (Nat×AO)) (i j:Nat) (b:AV):look (vh i b l) j=(look l j).map (AO.sub i b):=by
 induction l with
 |nil=>rfl
 |cons p l ih=>
  obtain ⟨k,o⟩:=p;simp only[vh,look];cases Qaa j k<;>simp[ih]
theorem tS {α:Type} (l:List (Nat×α)) (i j:Nat):look (del i l) j=if j=i then none else look l j:=by
 induction l with
 |nil=>simp[del,look]
 |cons p l ih=>
  obtain ⟨k,o⟩:=p;simp only[del];by_cases hki:k=i
  ·subst hki
   simp only[ga,cond_true,ih,look];by_cases hj:j=k
   ·simp[hj]
   ·simp[hj,eQ hj]
  ·simp only[eQ hki,cond_false,look]
   by_cases hj:j=k
   ·subst hj;simp[ga,hki]
   ·simp only[eQ hj,cond_false,ih]
theorem Hp.new (hp:Hp N0 w ν h) (hsz:w.heap.size≤w'.heap.size) (hb:∀b,b<w.heap.size→w'.heap[b]? =w.heap[b]?) {val:Value} (hval:val≠undef)
 (hblk:∀b,Ow val b→w.heap.size≤b∧b<w'.heap.size) {o:AO}
 (hro:Mv w (nN N0 ν) w' (nN N0 (dw ν h.nx val))→(∀id,ν id≠undef→dw ν h.nx val id=ν id)→Ro w' (nN N0 (dw ν h.nx val)) (dw ν h.nx val) h.nx o):
 Hp N0 w' (dw ν h.nx val) (h.new o)∧Mv w (nN N0 ν) w' (nN N0 (dw ν h.nx val))∧∀id,ν id≠undef→dw ν h.nx val id=ν id:=by
 have hν:∀id,ν id≠undef→dw ν h.nx val id=ν id:=by
  intro id hid;have:id≠h.nx:=fun e=>hid (by rw[e];exact hp.dom _ (Qag _));simp[dw,this]
 have hup:∀i b,Ow (dw ν h.nx val i) b→(i=h.nx∧Ow val b)∨(i≠h.nx∧Ow (ν i) b):=by
  intro i b g;by_cases e:i=h.nx
  ·exact .inl ⟨e,by simpa [dw,e] using g⟩
  ·exact .inr ⟨e,by simpa [dw,e] using g⟩
 have m:Mv w (nN N0 ν) w' (nN N0 (dw ν h.nx val)):=hp.mvN hsz (fun _=>False) (fun b hlt _=>hb b hlt) (fun _ h=>h.elim) (by
  intro id b g;rcases hup id b g with ⟨_,g⟩|⟨_,g⟩
  ·exact .inr (hblk b g).1
  ·exact .inl g)
 refine ⟨⟨?_,?_,?_,?_,fun b hb'=>Qai (hp.n0 b hb') hsz,?_,hp.lw.mv (fun b _ hlt=>hb b hlt)⟩,m,hν⟩
 ·intro id o' hl
  simp only[Heap.new,look] at hl;by_cases e:id=h.nx
  ·subst e
   rw[ga] at hl;simp only[cond_true,Qab] at hl;subst hl;exact hro m hν
  ·rw[eQ e] at hl
   exact Ro.keep m hν (fun b g=>hb b (hp.bnd id b g)) (hp.objs id o' hl)
 ·intro i j b gi gj
  rcases hup i b gi with ⟨e1,g1⟩|⟨e1,g1⟩<;>rcases hup j b gj with ⟨e2,g2⟩|⟨e2,g2⟩
  ·rw[e1,e2]
  ·have:=(hblk b g1).1;have:=hp.bnd j b g2;omega
  ·have:=(hblk b g2).1;have:=hp.bnd i b g1;omega
  ·exact hp.inj i j b g1 g2
 ·intro i b g
  rcases hup i b g with ⟨_,g⟩|⟨_,g⟩
  ·exact (hblk b g).2
  ·exact Qai (hp.bnd i b g) hsz
 ·intro i hi
  simp only[Heap.new] at hi;have:i≠h.nx:=by omega
  simp only[dw,this,if_false];exact hp.dom i (by omega)
 ·intro i b g hN
  rcases hup i b g with ⟨_,g⟩|⟨_,g⟩
  ·have:=(hblk b g).1;have:=hp.n0 b hN;omega
  ·exact hp.dis i b g hN
theorem St.new (s:St q N0 w0 Nf n ν0 σ h a w ν) (hk:Kp (fun _=>False) w w') {val:Value} (hval:val≠undef)
 (hblk:∀b,Ow val b→w.heap.size≤b∧b<w'.heap.size) {o:AO}
 (hro:Mv w (nN N0 ν) w' (nN N0 (dw ν h.nx val))→(∀id,ν id≠undef→dw ν h.nx val id=ν id)→Ro w' (nN N0 (dw ν h.nx val)) (dw ν h.nx val) h.nx o)
 (d:Option Nat) {r:AV} {v:Value} (hr:Rv w' (nN N0 (dw ν h.nx val)) (dw ν h.nx val) [r] [v]):
 St q N0 w0 Nf n ν0 (σ.putO n d r) (h.new o) (a.put d v) w' (dw ν h.nx val):=by
 obtain ⟨hp,m,hν⟩:=s.hp.new hk.size (fun b hb=>hk.blk b hb (fun h=>h)) hval hblk hro;refine ⟨dA (fun k=>(s.slots k).mv m hν) s.size d hr,hp,s.kp.trans hk (fun _ _ h=>h.elim),?_,by rw[e9,s.size],?_,?_,⟨Nat.le_succ_of_le s.low.1,s.low.2⟩⟩
 ·intro i b g
  by_cases e:i=h.nx
  ·have:Ow val b:=by simpa [dw,e] using g
   exact .inl (Qat s.kp.size (hblk b this).1)
  ·exact s.fresh i b (by simpa [dw,e] using g)
 ·rw[dq]
  refine s.defers.mv (fun b hb _=>hk.blk b hb (fun h=>h)) (fun i b g=>?_);by_cases e:i=h.nx
  ·exact .inr (hblk b (by simpa [dw,e] using g)).1
  ·exact .inl ⟨i,by simpa [dw,e] using g⟩
 ·refine ⟨fun i h1 h2=>?_,fun hf i h1=>?_⟩
  ·have:i≠h.nx:=fun e=>h1 (s.low.2 i (by rw[e];exact s.low.1))
   simp only[dw,this,if_false];exact s.keep.1 i h1 h2
  ·have:i≠h.nx:=fun e=>h1 (s.low.2 i (by rw[e];exact s.low.1))
   simp only[dw,this,if_false];exact s.keep.2 hf i h1
theorem St.seen (s:St q N0 w0 Nf n ν0 σ h a w ν) (hk:Kp (fun _=>False) w w') (d:Option Nat) {r:AV} {v:Value} (hr:Rv w' (nN N0 ν) ν [r] [v]):
 St q N0 w0 Nf n ν0 (σ.putO n d r) h (a.put d v) w' ν:=by
 have hb:∀b,b<w.heap.size→w'.heap[b]? =w.heap[b]? :=fun b hb=>hk.blk b hb (fun h=>h);have m:Mv w (nN N0 ν) w' (nN N0 ν):=⟨hk.size,fun b hlt hN=>⟨hN,hb b hlt⟩⟩;refine ⟨dA (fun k=>(s.slots k).mv m (fun _ _=>rfl)) s.size d hr,?_,s.kp.trans hk (fun _ _ h=>h.elim),s.fresh,by rw[e9,s.size],by rw[dq];exact s.defers.mv (fun b hlt _=>hb b hlt) (fun i b g=> .inl ⟨i,g⟩),s.keep,s.low⟩
 exact ⟨fun id o hl=>Ro.keep m (fun _ _=>rfl) (fun b g=>hb b (s.hp.bnd id b g)) (s.hp.objs id o hl),s.hp.inj,fun i b g=>Qai (s.hp.bnd i b g) hk.size,s.hp.dom,
  fun b hb'=>Qai (s.hp.n0 b hb') hk.size,s.hp.dis,s.hp.lw.mv (fun b _ hlt=>hb b hlt)⟩
def gh (v:Value):Value:= .agg #[ac v]
@[simp] theorem IA {v:Value} {b:Nat}:¬Ow (gh v) b:=by
  intro h
  cases h with
  |leaf h=>cases h
@[simp] theorem rG {v:Value}:ac (gh v)=ac v:=rfl
theorem Same.gh {v:Value} (h:∃A n c,ac v= .slice A n c):Same v (gh v):=by
 obtain ⟨A,n,c,e⟩:=h;exact .inr ⟨A,n,c,e,by rw[rG,e]⟩
theorem JX {v:Value}:Same v v:= .inl rfl
theorem Ro.map {N N':Nat→Prop} (m:Mv w N w' N') {f:Nat→Option Nat} (hν:∀id j,f id=some j→ν id≠undef→Same (ν id) (ν' j)) {id j:Nat} {o:AO} (e:ν' j=ν id)
 (hb:∀b,Ow (ν id) b→w'.heap[b]? =w.heap[b]?) (hr:Ro w N ν id o):Ro w' N' ν' j (o.map' f):=by
 cases o with
 |cells t cs=>
  obtain ⟨b,arr,e',h1,h2,h3⟩:=hr
  exact ⟨b,arr,e',by rw[e,h1],by rw[hb b (by rw[h1];exact .leaf rfl)];exact h2,h3.map m hν⟩
 |row t sz rows=>
  obtain ⟨A,c,cells,h1,h2,h3,h4,h5,h6⟩:=hr;refine ⟨A,c,cells,by rw[e,h1],h2.mv m,h3,h4,h5,?_⟩;rw[e]
  exact ez h6 fun b h=>hb b (.leaf h)
 |tree t sz fs rows=>
  obtain ⟨bs,h1,h2⟩:=hr;refine ⟨bs,?_,h2⟩;rw[e]
  exact h1.keep fun b g=>hb b ((h1.ow b).2 g)
 |map t tk es=>
  obtain ⟨r,arr,clock,h1,h2,h3,hB⟩:=hr;exact ⟨r,arr,clock,by rw[e,h1],by rw[hb r (by rw[h1];exact .leaf rfl)];exact h2,h3.map m hν,hB⟩
theorem St.turn (s:St q N0 w0 Nf n ν0 σ h a w ν) {h':Heap} {σ':Env} {a':Act} (B:Nat→Prop) (hB:∀b,B b→∃i,Ow (ν i) b) (hk:Kp B w w')
 (hslots:Mv w (nN N0 ν) w' (nN N0 ν')→∀k,Rv w' (nN N0 ν') ν' [σ' k] [a'.tmps.getD k undef])
 (hobjs:Mv w (nN N0 ν) w' (nN N0 ν')→∀id o,look h'.objs id=some o→Ro w' (nN N0 ν') ν' id o)
 (hinj:∀i j b,Ow (ν' i) b→Ow (ν' j) b→i=j) (hown:∀i b,Ow (ν' i) b→b<w'.heap.size∧((∃j,Ow (ν j) b)∨w.heap.size≤b))
 (hdom:∀i,h'.nx≤i→ν' i=undef) (hsz:a'.tmps.size=a.tmps.size) (hdf:a'.defers=a.defers)
 (hkeep:(∀i,ν0 i≠undef→(∀A m c,ac (ν0 i)≠ .slice A m c)→ν' i=ν0 i)∧(q.fx=true→∀i,ν0 i≠undef→ac (ν' i)=ac (ν0 i))) (hlo:h'.lo=h.lo) (hnx:h.nx≤h'.nx):
 St q N0 w0 Nf n ν0 σ' h' a' w' ν':=by
 have hnb:∀b,N0 b→¬B b:=fun b g hb=>by obtain ⟨i,hi⟩:=hB b hb;exact s.hp.dis i b hi g
 have m:Mv w (nN N0 ν) w' (nN N0 ν'):=by
  refine ⟨hk.size,fun b hlt hN=>⟨?_,hk.blk b hlt (fun g=>hN (.inr (hB b g)))⟩⟩;rintro (g|⟨i,g⟩)
  ·exact hN (.inl g)
  ·rcases (hown i b g).2 with g'|g'
   ·exact hN (.inr g')
   ·omega
 refine ⟨hslots m,⟨hobjs m,hinj,fun i b g=>(hown i b g).1,hdom,fun b g=>Qai (s.hp.n0 b g) hk.size,fun i b g hN=>?_,s.hp.lw.mv (fun b g hlt=>hk.blk b hlt (hnb b g))⟩,
  s.kp.trans hk (fun x hx g=>?_),fun i b g=>?_,by rw[hsz,s.size],?_,hkeep,by rw[hlo];exact ⟨Qat s.low.1 hnx,s.low.2⟩⟩
 ·rcases (hown i b g).2 with ⟨j,g'⟩|g'
  ·exact s.hp.dis j b g' hN
  ·have:=s.hp.n0 b hN;omega
 ·obtain ⟨i,hi⟩:=hB x g
  rcases s.fresh i x hi with g|g
  ·omega
  ·exact g
 ·rcases (hown i b g).2 with ⟨j,g'⟩|g'
  ·exact s.fresh j b g'
  ·left;have:=s.kp.size;omega
 ·rw[hdf]
  exact s.defers.mv (fun b hlt hn=>hk.blk b hlt (fun g=>by obtain ⟨i,hi⟩:=hB b g;exact hn i hi)) (fun i b g=>(hown i b g).2)
theorem anyN {ks:List Nat} {i:Nat}:ks.any (Qaa i)=true↔i∈ks:=by
 simp only[List.any_eq_true];constructor
 ·rintro ⟨x,hx,e⟩;rw[Qae e];exact hx
 ·intro h;exact ⟨i,h,ga i⟩
theorem nb {ks:List Nat} {i j:Nat} (h:jK ks i=some j):j=i∧i ∉ ks:=by
 unfold jK at h;cases e:ks.any (Qaa i)<;>rw[e] at h
 ·simp only[cond_false,Qab] at h
  refine ⟨h.symm,fun g=>?_⟩;rw[anyN.2 g] at e;cases e
 ·cases h
theorem lY (ks:List Nat) (l:List (Nat×AO)) (j:Nat):look (md ks l) j=bif ks.any (Qaa j) then none else (look l j).map (AO.unn ks):=by
 induction l with
 |nil=>simp[md,look]
 |cons p l ih=>
  obtain ⟨k,o⟩:=p;simp only[md]
  cases hk:ks.any (Qaa k) with
  |true=>
   simp only[cond_true,ih,look];by_cases e:j=k
   ·subst e;rw[hk];rfl
   ·rw[eQ e];rfl
  |false=>
   simp only[cond_false,look];by_cases e:j=k
   ·subst e;rw[ga,hk];rfl
   ·rw[eQ e];exact ih
def gQ (ν:Nat→Value) (id:Nat) (val:Value) (ks:List Nat):Nat→Value:=fun i=>if i=id then val else if i∈ks then gh (ν i) else ν i
theorem ee {id:Nat} {val:Value} {ks:List Nat}:gQ ν id val ks id=val:=by simp[gQ]
theorem St.absorb (s:St q N0 w0 Nf n ν0 σ h a w ν) {id nx:Nat} {val:Value} {ks fz:List Nat} {o:AO} {objs:List (Nat×AO)} (hnx:h.nx≤nx) (hid:id<nx) (hk:Kp (fun b=>Ow (ν id) b) w w')
 (hval:∀b,Ow val b→b<w'.heap.size∧(Ow (ν id) b∨(∃k∈ks,Ow (ν k) b)∨w.heap.size≤b)) (hks:∀k∈ks,∃A n c,ac (ν k)= .slice A n c) (hkid:id ∉ ks)
 (hfz:id∈fz∨ν id=undef∨Same (ν id) val) (hk0:ν0 id≠undef→(∃A n c,ac (ν0 id)= .slice A n c)∧(q.fx=true→ac val=ac (ν0 id)))
 (hro:Mv w (nN N0 ν) w' (nN N0 (gQ ν id val ks))→Ro w' (nN N0 (gQ ν id val ks)) (gQ ν id val ks) id o)
 (hobjs:∀j o',look objs j=some o'→(j=id∧o'=o)∨(j≠id∧j ∉ ks∧∃o'',look h.objs j=some o''∧o'=o''.map' (jK fz)))
 (d:Option Nat) {r:AV} {v:Value} (hr:Mv w (nN N0 ν) w' (nN N0 (gQ ν id val ks))→Rv w' (nN N0 (gQ ν id val ks)) (gQ ν id val ks) [r] [v]):
 St q N0 w0 Nf n ν0 ((Env.ren (.tsub fz) σ).putO n d r) ⟨objs,nx,h.lo⟩ (a.put d v) w' (gQ ν id val ks):=by
 have hcase:∀i b,Ow (gQ ν id val ks i) b→(i=id∧Ow val b)∨(i≠id∧i ∉ ks∧Ow (ν i) b):=by
  intro i b g;unfold gQ at g;split at g
  ·rename_i e;exact .inl ⟨e,g⟩
  ·split at g
   ·exact absurd g IA
   ·rename_i e e2;exact .inr ⟨e,e2,g⟩
 have hν:∀i j,jK fz i=some j→ν i≠undef→Same (ν i) (gQ ν id val ks j):=by
  intro i j hf hne;obtain ⟨rfl,hi⟩:=nb hf;unfold gQ;split
  ·rename_i e
   subst e;rcases hfz with g|g|g
   ·exact absurd g hi
   ·exact absurd g hne
   ·exact g
  ·split
   ·rename_i e2;exact Same.gh (hks _ e2)
   ·exact .inl rfl
 refine s.turn (fun b=>Ow (ν id) b) (fun b g=>⟨id,g⟩) hk (fun m=>?_) (fun m=>?_) ?_ ?_ ?_ (e9 _ _ _) (dq _ _ _) ?_ rfl hnx
 ·refine dA (fun k=>?_) s.size d (hr m)
  have:=(s.slots k).map m hν;simp only[aG] at this;exact this
 ·intro j o' hl
  rcases hobjs j o' hl with ⟨rfl,rfl⟩|⟨h1,h2,o'',h3,rfl⟩
  ·exact hro m
  ·refine Ro.map m hν (by simp[gQ,h1,h2]) (fun b g=>hk.blk b (s.hp.bnd j b g) (fun g'=>h1 (s.hp.inj j id b g g'))) (s.hp.objs j o'' h3)
 ·intro i j b gi gj
  rcases hcase i b gi with ⟨e1,g1⟩|⟨e1,e1',g1⟩<;>rcases hcase j b gj with ⟨e2,g2⟩|⟨e2,e2',g2⟩
  ·rw[e1,e2]
  ·rcases (hval b g1).2 with g|⟨k,hk',g⟩|g
   ·exact absurd (s.hp.inj _ _ b g g2) (fun e=>e2 e.symm)
   ·exact absurd (s.hp.inj _ _ b g g2) (fun e=>e2' (e▸hk'))
   ·have:=s.hp.bnd j b g2;omega
  ·rcases (hval b g2).2 with g|⟨k,hk',g⟩|g
   ·exact absurd (s.hp.inj _ _ b g g1) (fun e=>e1 e.symm)
   ·exact absurd (s.hp.inj _ _ b g g1) (fun e=>e1' (e▸hk'))
   ·have:=s.hp.bnd i b g1;omega
  ·exact s.hp.inj i j b g1 g2
 ·intro i b g
  rcases hcase i b g with ⟨e1,g1⟩|⟨e1,e1',g1⟩
  ·obtain ⟨h1,h2⟩:=hval b g1
   exact ⟨h1,h2.elim (fun g=> .inl ⟨_,g⟩) (fun g=>g.elim (fun ⟨k,_,g⟩=> .inl ⟨k,g⟩) .inr)⟩
  ·exact ⟨Qai (s.hp.bnd i b g1) hk.size,.inl ⟨i,g1⟩⟩
 ·intro i hi
  simp only at hi;have h1:i≠id:=by omega
  have h2:i ∉ ks:=fun g=>by
   obtain ⟨A,n',c,e⟩:=hks i g;exact dc e (s.hp.dom i (by omega))
  simp only[gQ,h1,h2,if_false];exact s.hp.dom i (by omega)
 ·refine ⟨fun i h1 h2=>?_,fun hf i h1=>?_⟩
  ·have e:=s.keep.1 i h1 h2
   unfold gQ;split
   ·rename_i e2
    subst e2;obtain ⟨A,n',c,e3⟩:=(hk0 h1).1;exact absurd e3 (h2 _ _ _)
   ·split
    ·rename_i e3
     obtain ⟨A,n',c,e4⟩:=hks i e3;rw[e] at e4;exact absurd e4 (h2 _ _ _)
    ·exact e
  ·have e:=s.keep.2 hf i h1
   unfold gQ;split
   ·rename_i e2
    subst e2;exact (hk0 h1).2 hf
   ·split
    ·rw[rG];exact e
    ·exact e
end
end Go.Vc
end
section
namespace Go.Vc
def Iw:AV→Value→Bool
 | .d (.int k n),.int k' n'=>fv k k'&&decide (n=n')
 | .d (.bool b),.bool b'=>b==b'
 | .d (.str []),.string s=>s.data.toList.isEmpty
 | .nils,.slice none 0 0=>true
 | .val .nilFunc,.nilFunc=>true
 | .val .nilIface,.nilIface=>true
 | .val (.pointer none),.pointer none=>true
 | .val (.map none),.map none=>true
 |_,_=>false
def kP:List AV→List Value→Bool
 |[],[]=>true
 |a::as,v::vs=>Iw a v&&kP as vs
 |_,_=>false
def eD:TK→TypeDesc→Bool
 | .int k,.int k'=>fv k k'
 | .bool,.bool=>true
 | .str,.string=>true
 | .slice e,.slice e'=>Qaa e e'
 | .struct fs,.struct fields=>decide (fields.toList.map (fun f=>(f.offset,f.type))=fs)
 | .map k e,.map k' e'=>Qaa k k'&&Qaa e e'
 | .array n e,.array n' e'=>Qaa n n'&&Qaa e e'
 | .iface,.interface _=>true
 | .ptr,.pointer _=>true
 | .func,.func _ _ _=>true
 |_,_=>false
def Gx (i:TypeInfo):String×FuncId→Bool
 |(name,f)=>match i.methods.find? (·.name==name) with
  |some m=>m.path.isEmpty&&(match m.func with|some (f',p)=>Qaa f f'&& !p|none=>false)
  |none=>false
def KL (P:Program) (t:TypeId) (ti:TI):Bool:=
 match P.info? t,P.underlying t with
 |some i,some d=>Qaa i.size ti.size&&Qaa i.bytes ti.bytes&&(match i.zero with|some z=>kP ti.zero z.cells.toList&&Qaa z.cells.size ti.size&&(match z with| .agg _=>ti.isAgg|_=> !ti.isAgg)|none=>false)&&
   eD ti.kind d&&(ti.meths.all (Gx i))&&(Qaa ti.size 1||ti.isAgg)
 |_,_=>false
def strTI:TI:=⟨.str,1,16,[.d (.str [])],[],false,[]⟩
def we (P:Program) (t:TypeId):Bool:=match P.underlying t with
 |some (.struct fs)=>match fs.toList with
  |[f,g]=> !(f.name== "_")&& !(g.name== "_")&&Qaa f.offset 0&&Qaa g.offset 1&&KL P f.type strTI&&KL P g.type strTI&& !P.stoodInHeld t
  |_=>false
 |_=>false
def bi (P:Program):List (Nat×TI)→Bool
 |[]=>true
 |(t,ti)::r=>KL P t ti&&(!ti.pair||we P t)&&B9 ti.nts&&bi P r
theorem kindEq_iff {a b:IntKind}:fv a b=true↔a=b:=by cases a<;>cases b<;>simp[fv]
structure fH (P:Program) (t:TypeId) (ti:TI):Prop where
 info:∃i z,P.info? t=some i∧i.size=ti.size∧i.bytes=ti.bytes∧i.zero=some z∧kP ti.zero z.cells.toList=true∧z.cells.size=ti.size∧ti.meths.all (Gx i)=true∧(match z with| .agg _=>ti.isAgg|_=> !ti.isAgg)=true
 kind:∃d,P.underlying t=some d∧eD ti.kind d=true
 one:ti.isAgg=false→ti.size=1
 pr:ti.pair=true→we P t=true
 nts:B9 ti.nts=true
theorem ah {P:Program}:∀{T:List (Nat×TI)},bi P T=true→∀{t ti},look T t=some ti→fH P t ti
 |[],_,_,_,h=>by simp[look] at h
 |(k,x)::r,hb,t,ti,h=>by
  simp only[bi,Qac] at hb;simp only[look] at h;by_cases e:t=k
  ·subst e
   rw[ga] at h;simp only[cond_true,Qab] at h;subst h;have hp:=hb.1.1.2;have hnt:=hb.1.2;have:=hb.1.1.1;unfold KL at this;split at this
   ·rename_i i d hi hd
    simp only[Qac] at this;obtain ⟨⟨⟨⟨⟨h1,h2⟩,h3⟩,h4⟩,h5⟩,h6⟩:=this;split at h3
    ·rename_i z hz
     simp only[Qac] at h3
     exact ⟨⟨i,z,hi,Qae h1,Qae h2,hz,h3.1.1,Qae h3.1.2,h5,h3.2⟩,⟨d,hd,h4⟩,fun hf=>by
      rw[hf,Bool.or_false] at h6;exact Qae h6,fun hq=>by rw[hq] at hp;simpa using hp,hnt⟩
    ·cases h3
   ·cases this
  ·rw[eQ e] at h
   exact ah hb.2 h
theorem gk {w:World} {N:Nat→Prop} {ν:Nat→Value}:∀{as:List AV} {vs:List Value},kP as vs=true→Rv w N ν as vs
 |[],[],_=> .nil
 |[],_::_,h=>by simp[kP] at h
 |_::_,[],h=>by simp[kP] at h
 |a::as,v::vs,h=>by
  simp only[kP,Qac] at h;have ih:=gk (w:=w) (N:=N) (ν:=ν) h.2;have h1:=h.1;unfold Iw at h1;split at h1
  ·simp only[Qac,kindEq_iff,decide_eq_true_eq] at h1
   obtain ⟨rfl,rfl⟩:=h1;exact .d (.int _ _ .nil) ih
  ·simp at h1;subst h1;exact .d (.bool _ .nil) ih
  ·rename_i s
   have:s=fI []:=by
    obtain ⟨⟨l⟩⟩:=s;simp at h1;subst h1;rfl
   subst this;exact .d (.str [] (Qaz _) .nil) ih
  ·exact .nils ih
  ·exact .val _ ih
  ·exact .val _ ih
  ·exact .val _ ih
  ·exact .val _ ih
  ·cases h1
section
variable {P:Program} {t:TypeId} {ti:TI} {w:World}
theorem pP (k:fH P t ti):(isAgg t).run P w= .ok ti.isAgg w:=by
 obtain ⟨d,h1,h2⟩:=k.kind;simp only[isAgg,Sem.run_bind,run_underlying h1,Qaf];unfold eD at h2;split at h2<;>simp_all [TI.isAgg]
theorem bI (k:fH P t ti):(sizeOf t).run P w= .ok ti.size w:=by
 obtain ⟨i,z,h1,h2,_⟩:=k.info;simp[sizeOf,typeInfo,h1,h2]
theorem sT (k:fH P t ti):∃z,(zeroValue t).run P w= .ok z w∧kP ti.zero z.cells.toList=true∧z.cells.size=ti.size:=by
 obtain ⟨i,z,h1,h2,_,h3,h4,h5,_⟩:=k.info;exact ⟨z,by simp[zeroValue,typeInfo,h1,h3],h4,h5⟩
theorem j7 (k:fH P t ti) (b o:Nat) (cs:List Value) (hlen:cs.length=ti.size) (hc:∀(j:Nat) v,cs[j]? =some v→w.cell? ⟨b,o+j,none⟩=some v):
 (loadVar t ⟨b,o,none⟩).run P w= .ok (if ti.isAgg then .agg cs.toArray else cs.getD 0 undef) w:=by
 have hl:=run_loadCells_list (P:=P) w ⟨b,o,none⟩ cs (fun j v hv=>by rw[Addr.add_lit];exact hc j v hv);rw[hlen] at hl;simp only[loadVar,Sem.run_bind,pP k,Qaf]
 cases hag:ti.isAgg with
 |true=>simp[bI k,hl]
 |false=>
  have h1:=k.one hag
  cases cs with
  |nil=>simp at hlen;omega
  |cons c cs=>
   have h2:=hc 0 c rfl;rw[Nat.add_zero] at h2;simp[h2]
end
end Go.Vc
end
section
namespace Go.Vc
abbrev G (ro:Option Nat):Fence:={Fence.wide with round:=ro}
theorem iw {P:Program} {ro:Option Nat} {o:Oper} {ρ:Operand→Value} {w w':World} {x:Next} (hx:∀d,x≠ .defer d) (hr:(execOp ρ o).run P w= .ok x w'):(o.semAt ro ρ).run P w= .ok x w':=by
 rw[Oper.semAt_eq]
 ·exact hr
 ·intro c hc
  unfold execOp at hr;rw[hc] at hr;simp only[Sem.run_bind] at hr
  cases h:(resolve ρ c o.type).run P w with
  |ok d w1=>
   rw[h] at hr;simp only[Qaf,Sem.run_pure,Result.ok.injEq] at hr
   exact hx d hr.1.symm
  |halt d w1=>rw[h] at hr;cases hr
theorem bD {P:Program} {ro:Option Nat} {o:Oper} {a:Act} {w w':World} {v:Value} {next:Act→World→Prop} {Q:Exit→Act→World→Prop}
 (hr:(execOp a.eval o).run P w= .ok (.value v) w') (h:next (a.put o.dst v) w'):o.wpIn (G ro) 0 P a w next Q:=by
 refine ⟨fun _ _=>trivial,?_⟩;have e:=iw (ro:=ro) (fun d h=>by cases h) hr;show o.uponIn (G ro) 0 P a next Q ((o.semAt ro a.eval).run P w)
 rw[e];exact h
theorem jr {P:Program} {ro:Option Nat} {o:Oper} {a:Act} {w w':World} {next:Act→World→Prop} {Q:Exit→Act→World→Prop}
 (hr:(execOp a.eval o).run P w= .ok .skip w') (h:next (a.put o.dst undef) w'):o.wpIn (G ro) 0 P a w next Q:=by
 refine ⟨fun _ _=>trivial,?_⟩;have e:=iw (ro:=ro) (fun d h=>by cases h) hr;show o.uponIn (G ro) 0 P a next Q ((o.semAt ro a.eval).run P w)
 rw[e];exact h
theorem Hd {P:Program} {ro:Option Nat} {n:Nat} {f:FuncId} {args:Array Value} {w:World} {R:Ending→World→Prop} (h:Calls P f args w R):CallsIn (G ro) n P f args w R:=by
 have h':CallsIn Fence.wide n P f args w R:=callsIn_wide.2 h
 cases ro with
 |none=>exact h'
 |some l=>exact CallsIn.inRound l h'
theorem gN {P:Program} {ro:Option Nat} {o:Oper} {a:Act} {w w':World} {f:FuncId} {args:Array Value} {next:Act→World→Prop} {Q:Exit→Act→World→Prop}
 (hr:(execOp a.eval o).run P w= .ok (.enter f args) w') (h:Calls P f args w' fun e w''=>∃v,e= .returned v∧next (a.put o.dst v) w''):o.wpIn (G ro) 0 P a w next Q:=by
 refine ⟨fun _ _=>trivial,?_⟩;have e:=iw (ro:=ro) (fun d h=>by cases h) hr;show o.uponIn (G ro) 0 P a next Q ((o.semAt ro a.eval).run P w)
 rw[e];refine ⟨fun h=>by simp[G,Fence.wide] at h,Hd (h.mono fun e w'' ⟨v,he,hn⟩=>?_)⟩;subst he;exact hn
section
variable {P:Program} {ro:Option Nat} {q:Md} {T:List (Nat×TI)} {S:bg} {N0 Nf:Nat→Prop} {w0 w:World} {n:Nat} {σ:Env} {h:Heap} {a:Act} {ν ν0:Nat→Value} {Q:Exit→Act→World→Prop} {next:Act→World→Prop}
theorem tD (s:ByteArray):fI s.data.toList=s:=by
 obtain ⟨⟨l⟩⟩:=s;rfl
theorem Kf (s:Bs):(fI s).data.toList=s:=rfl
theorem G8 {N:Nat→Prop} (v:Value):Rv w N ν [Li v] [v]:=by
 unfold Li;split
 ·exact .d (.int _ _ .nil) .nil
 ·rename_i s
  split
  ·rename_i e
   have:=tD s;rw[e] at this;rw[←this];exact .d (.str _ (Qaz _) .nil) .nil
  ·rename_i c r e
   cases hb:Qad (c::r).length big with
   |true=>
    simp only[cond_true];have:=tD s;rw[e] at this;rw[←this]
    exact .d (.str _ (Qah hb) .nil) .nil
   |false=>exact .any _ .nil
 ·exact .nils .nil
 ·exact .val _ .nil
theorem i5 {N:Nat→Prop} {a:AV} {v:Value} (h:Rv w N ν [a] [v]):Rv w N ν [mj a] [v]:=by
 unfold mj;split
 ·cases h;exact .d (.bool _ .nil) .nil
 ·exact h
theorem Ak {N:Nat→Prop}:∀{as:List AV} {vs:List Value},Rv w N ν as vs→Rv w N ν (as.map mj) vs
 |[],_,h=>by cases h;exact .nil
 |a::as,vs,h=>by
  obtain ⟨v,r,rfl,h1,h2⟩:=h.cons_inv;exact (i5 h1).cons (Ak h2)
theorem eu {N:Nat→Prop} {u v:Value} (h:Rv w N ν [.val u] [v]):v=u:=by
 cases h;rfl
theorem aD (s:St q N0 w0 Nf n ν0 σ h a w ν) (x:Operand):Rv w (nN N0 ν) ν [ev σ x] [a.eval x]:=by
 cases x with
 |tmp t=>exact s.slots t
 |const v=>exact G8 v
 |func f=>exact .fn (cs:=[]) f [] .nil .nil
 |global g=>exact .any _ .nil
theorem iL (s:St q N0 w0 Nf n ν0 σ h a w ν):∀(xs:List Operand),Rv w (nN N0 ν) ν (xs.map (ev σ)) (xs.map a.eval)
 |[]=> .nil
 |x::xs=>(aD s x).cons (iL s xs)
variable {N:Nat→Prop}
theorem bU {b:Bool} {v:Value} (h:Rv w N ν [.d (.bool b)] [v]):v= .bool b:=by
 cases h with|d h _=>cases h;rfl
theorem dj {k:IntKind} {m:Int} {v:Value} (h:Rv w N ν [.d (.int k m)] [v]):v= .int k m:=by
 cases h with|d h _=>cases h;rfl
theorem fN {s:Bs} {v:Value} (h:Rv w N ν [.d (.str s)] [v]):v= .string (fI s)∧s.length≤big:=by
 cases h with|d h _=>cases h with|str _ h _=>exact ⟨rfl,h⟩
theorem im {rows:List (List D)} {v:Value} (h:Rv w N ν [.d (.list rows)] [v]):∃A cap sz cells,v= .slice A rows.length cap∧Rd w N rows.flatten cells∧(∀r∈rows,r.length=sz)∧Placed w N A cells∧
 rows.length≤cap∧rows.length≤big:=by
 cases h with|d h _=>cases h with|list _ A cap sz cells h1 h2 h3 h4 h5 _=>exact ⟨A,cap,sz,cells,rfl,h1,h2,h3,h4,h5⟩
theorem je {cs:List AV} {v:Value} (h:Rv w N ν [.agg cs] [v]):∃xs:List Value,v= .agg xs.toArray∧Rv w N ν cs xs:=by
 cases h with|agg xs h _=>exact ⟨xs,rfl,h⟩
theorem I4 {cs:List AV} {v:Value} (h:Rv w N ν [.tup cs] [v]):∃xs:List Value,v= .tuple xs.toArray∧Rv w N ν cs xs:=by
 cases h with|tup xs h _=>exact ⟨xs,rfl,h⟩
theorem pO {id off:Nat} {v:Value} (h:Rv w N ν [.ptr id off] [v]):∃b,v= .pointer (some ⟨b,off,none⟩)∧ν id= .pointer (some ⟨b,0,none⟩):=by
 cases h with|ptr off h _=>exact ⟨_,rfl,h⟩
theorem FX {ds:List D} {v:Value} (h:Rv w N ν [.at_ ds] [v]):∃b o cells,v= .pointer (some ⟨b,o,none⟩)∧cells≠[]∧¬N b∧Rd w N ds cells∧
 ∀(j:Nat) v,cells[j]? =some v→w.cell? ⟨b,o+j,none⟩=some v:=by
 cases h with
 |at_ A cells h0 h1 h2 _=>
  rcases h2 with h2|⟨b,o,h2,h3,h4⟩
  ·exact absurd h2 h0
  ·obtain rfl:A=⟨b,o,none⟩:=by injection h2
   exact ⟨b,o,cells,rfl,h0,h3,h1,h4⟩
theorem oa {id i sz off:Nat} {v:Value} (h:Rv w N ν [.rptr id i sz off] [v]):∃b m c,v= .pointer (some ⟨b,i*sz+off,none⟩)∧ac (ν id)= .slice (some ⟨b,0,none⟩) m c∧i<m:=by
 cases h with|rptr i off sz h hi _=>exact ⟨_,_,_,rfl,h,hi⟩
theorem gn {id:Nat} {v:Value} (h:Rv w N ν [.own id] [v]):v=ac (ν id)∧∃A m c,ac (ν id)= .slice A m c:=by
 cases h with|own h _=>exact ⟨h.symm,_,_,_,h⟩
theorem Iz {f:FuncId} {cs:List AV} {v:Value} (h:Rv w N ν [.fn f cs] [v]):∃xs:List Value,v= .func (.func f) #[] xs.toArray∧Rv w N ν cs xs:=by
 cases h with|fn f xs h _=>exact ⟨xs,rfl,h⟩
theorem FW {f:FuncId} {cs:List AV} {v:Value} (h:Rv w N ν [.bfn f cs] [v]):∃xs:List Value,v= .func (.func f) xs.toArray #[]∧Rv w N ν cs xs:=by
 cases h with|bfn f xs h _=>exact ⟨xs,rfl,h⟩
theorem k8 {t:TypeId} {x:AV} {v:Value} (h:Rv w N ν [.iface t x] [v]):∃u,v= .iface t u∧Rv w N ν [x] [u]:=by
 cases h with|iface t h _=>exact ⟨_,rfl,h⟩
theorem fO {v:Value} (h:Rv w N ν [.nils] [v]):v= .slice none 0 0:=by
 cases h;rfl
theorem gD {ti:TI} {x:AV} {v:Value} {cs:List AV} (h:Rv w N ν [x] [v]) (hc:cellsOf ti x=some cs) (h1:ti.isAgg=false→ti.size=1):
 Rv w N ν cs v.cells.toList∧v.cells.size=ti.size∧cs.length=ti.size∧∀u∈v.cells.toList,u.oneCell'=true:=by
 unfold cellsOf at hc;split at hc
 ·rename_i cs'
  cases hag:ti.isAgg<;>rw[hag] at hc
  ·cases hc
  ·simp only[cond_true] at hc
   cases hb:(Qaa cs'.length ti.size&&oneL cs')<;>rw[hb] at hc
   ·cases hc
   ·simp only[cond_true,Qab] at hc
    subst hc;obtain ⟨xs,rfl,hx⟩:=je h;simp only[Qac] at hb;have e:=Qae hb.1;have hl:=hx.length;exact ⟨by simpa [Value.cells] using hx,by simp[Value.cells,hl,e],e,by simpa [Value.cells] using hx.oneL hb.2⟩
 ·cases hag:ti.isAgg<;>rw[hag] at hc
  ·simp only[cond_false] at hc
   cases ho:x.one<;>rw[ho] at hc
   ·cases hc
   ·simp only[cond_true,Qab] at hc
    subst hc;have hv:=h.oneCell ho;have:v.cells= #[v]:=by cases v<;>first|rfl|simp[Value.oneCell'] at hv
    rw[this];refine ⟨by simpa using h,by simp[h1 hag],by simp[h1 hag],by simpa using hv⟩
  ·cases hc
theorem jI {ti:TI} (k:ti.isAgg=false→ti.size=1) {cs:List AV} {xs:List Value} (h:Rv w N ν cs xs) {r:AV} (hl:kF ti cs=some r):
 (xs.take ti.size).length=ti.size∧Rv w N ν [r] [if ti.isAgg then .agg (xs.take ti.size).toArray else (xs.take ti.size).getD 0 undef]:=by
 unfold kF at hl;have hlen:=h.length;cases hag:ti.isAgg<;>rw[hag] at hl
 ·simp only[cond_false] at hl
  cases cs with
  |nil=>cases hl
  |cons c cs=>
   obtain ⟨v,r',rfl,h1,_⟩:=h.cons_inv;simp only[List.head?_cons,Qab] at hl;subst hl;have:=k hag;simp[this];exact h1
 ·simp only[cond_true] at hl
  cases hb:Qad ti.size cs.length<;>rw[hb] at hl
  ·cases hl
  ·simp only[cond_true,Qab] at hl
   subst hl;have hb':=Qah hb;exact ⟨by simp;omega,by simp only[if_true];exact .agg _ (h.take _) .nil⟩
theorem AE {ti:TI} (k:ti.isAgg=false→ti.size=1) {cs:List D} {xs:List Value} (h:Rd w N cs xs) {r:AV} (hl:qH ti cs=some r):
 (xs.take ti.size).length=ti.size∧Rv w N ν [r] [if ti.isAgg then .agg (xs.take ti.size).toArray else (xs.take ti.size).getD 0 undef]:=by
 have hv:Rv w N ν (cs.map .d) xs:=y7 h;refine jI k hv ?_;unfold qH at hl;unfold kF;simpa [List.map_take] using hl
end
end Go.Vc
end
section
namespace Go.Vc
section
variable {P:Program} {ro:Option Nat} {q:Md} {T:List (Nat×TI)} {S:bg} {N0 Nf:Nat→Prop} {w0 w w':World} {n:Nat} {σ:Env} {h:Heap} {a:Act} {ν ν' ν0:Nat→Value} {Q:Exit→Act→World→Prop} {next:Act→World→Prop}
theorem lc (hp:Hp N0 w ν h) {i:Nat} {rows:List (List D)} (hl:fq h.objs i=some rows) {N':Nat→Prop} (hN:∀b,N' b→nN N0 ν b)
 (hi:∀b,Ow (ν i) b→¬N' b) {A:Option Addr} {m c:Nat} (hν:ac (ν i)= .slice A m c):Rd w N' [.list rows] [.slice A m c]:=by
 rcases oo hl with ⟨t,sz,hl⟩|⟨t,sz,fs,hl⟩
 ·obtain ⟨A',c',cells,h1,h2,h3,h4,h5,h6⟩:=hp.objs i _ hl
  rw[h1] at hν;simp only[ac,Value.slice.injEq] at hν;obtain ⟨rfl,rfl,rfl⟩:=hν;rw[h1] at h6;obtain ⟨p1,p2⟩:=d5 (N:=N') h6 (fun b g=>hi b (by rw[h1];exact .leaf g));exact .list rows _ _ sz cells (h2.mv ⟨Qag _,fun b _ hb=>⟨fun g=>hb (hN b g),rfl⟩⟩) h3 p1 p2 h4 .nil
 ·obtain ⟨bs,h1,h2⟩:=hp.objs i _ hl
  rw[←hν];exact h1.rd fun b g=>hi b ((h1.ow b).2 g)
theorem la (hp:Hp N0 w ν h) {i:Nat} {rows:List (List D)} (hl:fq h.objs i=some rows):∃A c,ac (ν i)= .slice A rows.length c:=by
 rcases oo hl with ⟨t,sz,hl⟩|⟨t,sz,fs,hl⟩
 ·obtain ⟨A',c',cells,h1,_⟩:=hp.objs i _ hl
  exact ⟨A',c',by rw[h1];rfl⟩
 ·obtain ⟨bs,h1,_⟩:=hp.objs i _ hl
  exact h1.root
theorem BU {l:List (Nat×AO)} {i j:Nat} {b:AV} (e:j≠i):fq (vh i b (del i l)) j=fq l j:=by
 unfold fq;rw[p9,tS,if_neg e]
 cases look l j with
 |none=>rfl
 |some o=>cases o<;>rfl
theorem mJ {N N':Nat→Prop} (m:Mv w N w' N') {i:Nat} {b:AV} (hν:∀id,id≠i→ν id≠undef→ν' id=ν id) (hb:∀A n c,ac (ν i)= .slice A n c→Rv w' N' ν' [b] [.slice A n c])
 {k:Nat} {v:Value} (h:Rv w N ν [σ k] [v]):Rv w' N' ν' [(Env.sub i b σ) k] [v]:=by
 have:=h.sub m hν hb;simpa [bu,Env.sub] using this
theorem St.pub (s:St q N0 w0 Nf n ν0 σ h a w ν) {i:Nat} {rows:List (List D)} (hl:fq h.objs i=some rows):
 St q N0 w0 Nf n ν0 (Env.sub i (.d (.list rows)) σ) ⟨vh i (.d (.list rows)) (del i h.objs),h.nx,h.lo⟩ a w (dw ν i (gh (ν i))):=by
 have hup:∀j b,Ow (dw ν i (gh (ν i)) j) b→j≠i∧Ow (ν j) b:=by
  intro j b g;by_cases e:j=i
  ·simp[dw,e] at g
  ·exact ⟨e,by simpa [dw,e] using g⟩
 have hN:∀b,nN N0 (dw ν i (gh (ν i))) b→nN N0 ν b:=by
  rintro b (g|⟨j,g⟩)
  ·exact .inl g
  ·exact .inr ⟨j,(hup j b g).2⟩
 have m:Mv w (nN N0 ν) w (nN N0 (dw ν i (gh (ν i)))):=⟨Qag _,fun b _ hb=>⟨fun g=>hb (hN b g),rfl⟩⟩;have hν:∀id,id≠i→ν id≠undef→dw ν i (gh (ν i)) id=ν id:=fun id e _=>by simp[dw,e]
 have hb:∀A n c,ac (ν i)= .slice A n c→Rv w (nN N0 (dw ν i (gh (ν i)))) (dw ν i (gh (ν i))) [.d (.list rows)] [.slice A n c]:=by
  intro A k c e;refine .d (lc s.hp hl hN ?_ e) .nil;rintro b g (g'|⟨j,g'⟩)
  ·exact s.hp.dis i b g g'
  ·have:=hup j b g'
   exact this.1 (s.hp.inj j i b this.2 g)
 refine ⟨fun k=>mJ m hν hb (s.slots k),⟨?_,?_,?_,?_,s.hp.n0,?_,s.hp.lw⟩,s.kp,?_,s.size,s.defers.mv (fun _ _ _=>rfl) (fun j b g=> .inl ⟨j,(hup j b g).2⟩),?_,s.low⟩
 ·intro id o ho
  rw[p9,tS] at ho;by_cases e:id=i
  ·rw[if_pos e] at ho;cases ho
  ·rw[if_neg e] at ho
   cases hq:look h.objs id with
   |none=>rw[hq] at ho;cases ho
   |some o'=>
    rw[hq] at ho;simp only[QaB,Qab] at ho;subst ho;exact uG m hν hb e (fun _ _=>rfl) (s.hp.objs id o' hq)
 ·exact fun j k b g1 g2=>s.hp.inj j k b (hup j b g1).2 (hup k b g2).2
 ·exact fun j b g=>s.hp.bnd j b (hup j b g).2
 ·intro j hj
  by_cases e:j=i
  ·subst e
   obtain ⟨A,c,g⟩:=la s.hp hl;exact absurd (s.hp.dom j hj) (dc g)
  ·simpa [dw,e] using s.hp.dom j hj
 ·exact fun j b g=>s.hp.dis j b (hup j b g).2
 ·exact fun j b g=>s.fresh j b (hup j b g).2
 ·refine ⟨fun j h1 h2=>?_,fun hf j h1=>?_⟩
  ·by_cases e:j=i
   ·subst e
    obtain ⟨A,c,g⟩:=la s.hp hl;exact absurd (by rw[←s.keep.1 j h1 h2];exact g) (h2 _ _ _)
   ·simp only[dw,e,if_false]
    exact s.keep.1 j h1 h2
  ·by_cases e:j=i
   ·subst e
    simp only[dw,if_true,rG];exact s.keep.2 hf j h1
   ·simp only[dw,e,if_false]
    exact s.keep.2 hf j h1
theorem St.pubs:∀(ids:List Nat) {σ:Env} {l l':List (Nat×AO)} {x y:Nat} {m:List (Nat×AV)} {ν:Nat→Value},St q N0 w0 Nf n ν0 σ ⟨l,x,y⟩ a w ν→pubs ids l=(l',m)→
 ∃ν',St q N0 w0 Nf n ν0 (σ.subs m) ⟨l',x,y⟩ a w ν'∧(∀j,ν' j=ν j∨∀b,¬Ow (ν' j) b)∧∀i∈ids,(∃rows,fq l i=some rows)→∀b,¬Ow (ν' i) b
 |[],σ,l,l',x,y,m,ν,s,e=>by
  simp only[Vc.pubs,Qau] at e;obtain ⟨rfl,rfl⟩:=e
  exact ⟨ν,s,fun _=> .inl rfl,by simp⟩
 |i::is,σ,l,l',x,y,m,ν,s,e=>by
  unfold Vc.pubs at e;split at e
  ·rename_i rows hl
   generalize hq:Vc.pubs is (vh i (.d (.list rows)) (del i l))=q at e;obtain ⟨l2,m2⟩:=q;simp only[Qau] at e;obtain ⟨rfl,rfl⟩:=e;obtain ⟨ν',s',h1,h2⟩:=St.pubs is (s.pub hl) hq
   have hi:∀b,¬Ow (ν' i) b:=by
    rcases h1 i with g|g
    ·rw[g];simp[dw]
    ·exact g
   refine ⟨ν',s',fun j=>?_,?_⟩
   ·by_cases e:j=i
    ·subst e;exact .inr hi
    ·rcases h1 j with g|g
     ·left;rw[g];simp[dw,e]
     ·exact .inr g
   ·intro j hj hrow
    by_cases e:j=i
    ·rw[e];exact hi
    ·refine h2 j ((List.mem_cons.1 hj).resolve_left e) ?_
     rw[BU e];exact hrow
  ·rename_i hno
   obtain ⟨ν',s',h1,h2⟩:=St.pubs is s e;refine ⟨ν',s',h1,fun j hj hrow=>?_⟩;rcases List.mem_cons.1 hj with rfl|hj
   ·obtain ⟨rows,hr⟩:=hrow
    rw[hno] at hr;cases hr
   ·exact h2 j hj hrow
theorem Rv.pub (s:St q N0 w0 Nf n ν0 σ h a w ν) {i:Nat} {rows:List (List D)} (hl:fq h.objs i=some rows) {as:List AV} {vs:List Value} (hr:Rv w (nN N0 ν) ν as vs):
 Rv w (nN N0 (dw ν i (gh (ν i)))) (dw ν i (gh (ν i))) (bu i (.d (.list rows)) as) vs:=by
 have hup:∀j b,Ow (dw ν i (gh (ν i)) j) b→j≠i∧Ow (ν j) b:=by
  intro j b g;by_cases e:j=i
  ·simp[dw,e] at g
  ·exact ⟨e,by simpa [dw,e] using g⟩
 have hN:∀b,nN N0 (dw ν i (gh (ν i))) b→nN N0 ν b:=by
  rintro b (g|⟨j,g⟩)
  ·exact .inl g
  ·exact .inr ⟨j,(hup j b g).2⟩
 have m:Mv w (nN N0 ν) w (nN N0 (dw ν i (gh (ν i)))):=⟨Qag _,fun b _ hb=>⟨fun g=>hb (hN b g),rfl⟩⟩;have hν:∀id,id≠i→ν id≠undef→dw ν i (gh (ν i)) id=ν id:=fun id e _=>by simp[dw,e]
 have hb:∀A n c,ac (ν i)= .slice A n c→Rv w (nN N0 (dw ν i (gh (ν i)))) (dw ν i (gh (ν i))) [.d (.list rows)] [.slice A n c]:=by
  intro A k c e;refine .d (lc s.hp hl hN ?_ e) .nil;rintro b g (g'|⟨j,g'⟩)
  ·exact s.hp.dis i b g g'
  ·have:=hup j b g'
   exact this.1 (s.hp.inj j i b this.2 g)
 exact hr.sub m hν hb
theorem uF:∀(ids:List Nat) {σ:Env} {l l':List (Nat×AO)} {x y:Nat} {m:List (Nat×AV)} {ν:Nat→Value},St q N0 w0 Nf n ν0 σ ⟨l,x,y⟩ a w ν→Vc.pubs ids l=(l',m)→
 ∃ν',St q N0 w0 Nf n ν0 (σ.subs m) ⟨l',x,y⟩ a w ν'∧(∀j,ν' j=ν j∨∀b,¬Ow (ν' j) b)∧(∀j,(∀A k c,ac (ν j)≠ .slice A k c)→ν' j=ν j)∧∀as vs,Rv w (nN N0 ν) ν as vs→Rv w (nN N0 ν') ν' (uH m as) vs
 |[],σ,l,l',x,y,m,ν,s,e=>by
  simp only[Vc.pubs,Qau] at e;obtain ⟨rfl,rfl⟩:=e
  exact ⟨ν,s,fun _=> .inl rfl,fun _ _=>rfl,fun _ _ h=>h⟩
 |i::is,σ,l,l',x,y,m,ν,s,e=>by
  unfold Vc.pubs at e;split at e
  ·rename_i rows hl
   generalize hq:Vc.pubs is (vh i (.d (.list rows)) (del i l))=q at e;obtain ⟨l2,m2⟩:=q;simp only[Qau] at e;obtain ⟨rfl,rfl⟩:=e;obtain ⟨ν',s',h1,h2,h3⟩:=uF is (s.pub hl) hq;obtain ⟨A',c',hi⟩:=la s.hp hl
   have hup:∀j,(∀A k c,ac (ν j)≠ .slice A k c)→dw ν i (gh (ν i)) j=ν j:=fun j hj=>by
    by_cases e:j=i
    ·subst e;exact absurd hi (hj _ _ _)
    ·simp[dw,e]
   refine ⟨ν',s',fun j=>?_,fun j hj=>?_,fun as vs hr=>h3 _ _ (Rv.pub s hl hr)⟩
   ·rcases h1 j with g|g
    ·by_cases e:j=i
     ·right;rw[g];simp[dw,e]
     ·left;rw[g];simp[dw,e]
    ·exact .inr g
   ·rw[h2 j (by rw[hup j hj];exact hj),hup j hj]
  ·exact uF is s e
theorem xc (hp:Hp N0 w ν h) {N':Nat→Prop} (hN:∀b,N' b→nN N0 ν b) {ν0:Nat→Value}:∀{as:List AV} {vs:List Value},Rv w (nN N0 ν) ν as vs→
 (∀id∈aF as,∀b,Ow (ν id) b→(∃rows,fq h.objs id=some rows)→¬N' b)→Rv w N' ν0 (aU h.objs as) vs:=by
 have m:Mv w (nN N0 ν) w N':=⟨Qag _,fun b _ hb=>⟨fun g=>hb (hN b g),rfl⟩⟩;intro as vs hr
 induction hr with
 |nil=>intro _;simp only[aU];exact .nil
 |any v _ ih=>intro hd;simp only[aU,AV.view];exact .any v (ih (fun id hid=>hd id (by simp[aF,bZ,hid])))
 |d h1 _ ih=>intro hd;simp only[aU,AV.view];exact .d (h1.mv m) (ih (fun id hid=>hd id (by simp[aF,bZ,hid])))
 |nils _ ih=>intro hd;simp only[aU,AV.view];exact .d (.list [] none 0 0 [] .nil (by simp) (.inl rfl) (Qag _) (Qaz _) .nil) (ih (fun id hid=>hd id (by simp[aF,bZ,hid])))
 |val v _ ih=>
  intro hd;have ih':=ih (fun id hid=>hd id (by simp[aF,bZ,hid]));simp only[aU]
  cases v<;>simp only[AV.view]<;>first|exact .val _ ih'|exact .d (.bool _ .nil) ih'
 |agg xs _ _ ih1 ih2=>
  intro hd;simp only[aU,AV.view]
  exact .agg xs (ih1 (fun id hid=>hd id (by simp[aF,bZ,hid]))) (ih2 (fun id hid=>hd id (by simp[aF,bZ,hid])))
 |tup xs _ _ ih1 ih2=>
  intro hd;simp only[aU,AV.view]
  exact .tup xs (ih1 (fun id hid=>hd id (by simp[aF,bZ,hid]))) (ih2 (fun id hid=>hd id (by simp[aF,bZ,hid])))
 |ptr off h1 _ ih=>intro hd;simp only[aU,AV.view];exact .any _ (ih (fun id hid=>hd id (by simp[aF,bZ,hid])))
 |at_ A cells h0 h1 h2 _ ih=>intro hd;simp only[aU,AV.view];exact .at_ A cells h0 (h1.mv m) (h2.mv m) (ih (fun id hid=>hd id (by simp[aF,bZ,hid])))
 |rptr i off sz h1 hi _ ih=>intro hd;simp only[aU,AV.view];exact .any _ (ih (fun id hid=>hd id (by simp[aF,bZ,hid])))
 |@own as vs id A k c h1 _ ih=>
  intro hd;have ih':=ih (fun id hid=>hd id (by simp[aF,bZ,hid]));simp only[aU,AV.view];split
  ·rename_i rows hl
   exact .d (lc hp hl hN (fun b g=>hd id (by simp[aF,bZ]) b g ⟨rows,hl⟩) h1) ih'
  ·exact .any _ ih'
 |nest _ _ _ _ _ _ _ _ ih=>intro hd;simp only[aU,AV.view];exact .any _ (ih (fun id hid=>hd id (by simp[aF,bZ,hid])))
 |mapr h1 _ ih=>intro hd;simp only[aU,AV.view];exact .any _ (ih (fun id hid=>hd id (by simp[aF,bZ,hid])))
 |fn f xs _ _ ih1 ih2=>
  intro hd;simp only[aU,AV.view]
  exact .fn f xs (ih1 (fun id hid=>hd id (by simp[aF,bZ,hid]))) (ih2 (fun id hid=>hd id (by simp[aF,bZ,hid])))
 |bfn f xs _ _ ih1 ih2=>
  intro hd;simp only[aU,AV.view]
  exact .bfn f xs (ih1 (fun id hid=>hd id (by simp[aF,bZ,hid]))) (ih2 (fun id hid=>hd id (by simp[aF,bZ,hid])))
 |iface t _ _ ih1 ih2=>
  intro hd;have ih1':=ih1 (fun id hid=>hd id (by simp[aF,bZ] at hid ⊢;simp[hid]));simp only[aU,AV.view] at ih1' ⊢;exact .iface t ih1' (ih2 (fun id hid=>hd id (by simp[aF,bZ,hid])))
theorem Rv.lt {N N':Nat→Prop} (m:Mv w N w N') (hν:∀id,id<n→ν id≠undef→ν' id=ν id) {as:List AV} {vs:List Value} (h:Rv w N ν as vs):ba n as=true→Rv w N' ν' as vs:=by
 induction h with
 |nil=>intro _;exact .nil
 |any v _ ih=>intro hl;simp only[ba,AV.lt,Qac] at hl;exact .any v (ih hl.2)
 |d h _ ih=>intro hl;simp only[ba,AV.lt,Qac] at hl;exact .d (h.mv m) (ih hl.2)
 |nils _ ih=>intro hl;simp only[ba,AV.lt,Qac] at hl;exact .nils (ih hl.2)
 |val v _ ih=>intro hl;simp only[ba,AV.lt,Qac] at hl;exact .val v (ih hl.2)
 |agg xs _ _ ih1 ih2=>intro hl;simp only[ba,AV.lt,Qac] at hl;exact .agg xs (ih1 hl.1) (ih2 hl.2)
 |tup xs _ _ ih1 ih2=>intro hl;simp only[ba,AV.lt,Qac] at hl;exact .tup xs (ih1 hl.1) (ih2 hl.2)
 |ptr off h _ ih=>intro hl;simp only[ba,AV.lt,Qac] at hl;exact .ptr off (by rw[hν _ (Qah hl.1) (by rw[h];simp[undef]),h]) (ih hl.2)
 |at_ A cells h0 h1 h2 _ ih=>intro hl;simp only[ba,AV.lt,Qac] at hl;exact .at_ A cells h0 (h1.mv m) (h2.mv m) (ih hl.2)
 |rptr i off sz h hi _ ih=>intro hl;simp only[ba,AV.lt,Qac] at hl;exact .rptr i off sz (by rw[hν _ (Qah hl.1) (dc h),h]) hi (ih hl.2)
 |own h _ ih=>intro hl;simp only[ba,AV.lt,Qac] at hl;exact .own (by rw[hν _ (Qah hl.1) (dc h),h]) (ih hl.2)
 |nest i off m j h1 h2 h3 _ ih=>intro hl;simp only[ba,AV.lt,Qac] at hl;exact .nest i off m j (by rw[hν _ (Qah hl.1) (xy h1 h2),h1]) h2 h3 (ih hl.2)
 |mapr h _ ih=>intro hl;simp only[ba,AV.lt,Qac] at hl;exact .mapr (by rw[hν _ (Qah hl.1) (by rw[h];simp[undef]),h]) (ih hl.2)
 |fn f xs _ _ ih1 ih2=>intro hl;simp only[ba,AV.lt,Qac] at hl;exact .fn f xs (ih1 hl.1) (ih2 hl.2)
 |bfn f xs _ _ ih1 ih2=>intro hl;simp only[ba,AV.lt,Qac] at hl;exact .bfn f xs (ih1 hl.1) (ih2 hl.2)
 |iface t _ _ ih1 ih2=>
  intro hl;simp only[ba,AV.lt,Qac] at hl ih1;exact .iface t (ih1 ⟨hl.1,trivial⟩) (ih2 hl.2)
theorem flat1 (hp:Hp N0 w ν h) {a:AV} {v:Value} (hr:Rv w (nN N0 ν) ν [a] [v]):
 (∀x,fe h.objs a= .d x→Rd w N0 [x] [v])∧(fe h.objs a= .nils→v= .slice none 0 0)∧(∀f,fe h.objs a= .fn f []→v= .func (.func f) #[] #[]):=by
 have m:Mv w (nN N0 ν) w N0:=⟨Qag _,fun b _ hb=>⟨fun g=>hb (.inl g),rfl⟩⟩
 cases hr with
 |d h1 _=>exact ⟨fun x e=>by simp only[fe,AV.d.injEq] at e;subst e;exact h1.mv m,fun e=>(by simp[fe] at e),fun f e=>(by simp[fe] at e)⟩
 |nils _=>exact ⟨fun x e=>(by simp[fe] at e),fun _=>rfl,fun f e=>(by simp[fe] at e)⟩
 |fn f xs h1 _=>
  refine ⟨fun x e=>(by simp[fe] at e),fun e=>(by simp[fe] at e),fun f' e=>?_⟩;simp only[fe,AV.fn.injEq] at e;obtain ⟨rfl,rfl⟩:=e;cases h1
  rfl
 |val v _=>
  cases v<;>refine ⟨fun x e=>?_,fun e=>(by simp[fe] at e),fun f e=>(by simp[fe] at e)⟩<;>simp[fe] at e;subst e
  exact .bool _ .nil
 |@own _ _ id A k c h1 _=>
  simp only[fe];split
  ·rename_i rows hl
   exact ⟨fun x e=>by simp only[AV.d.injEq] at e;subst e;exact lc hp hl (fun b g=> .inl g) (fun b g=>hp.dis id b g) h1,fun e=>(by cases e),fun f e=>(by cases e)⟩
  ·exact ⟨fun x e=>(by cases e),fun e=>(by cases e),fun f e=>(by cases e)⟩
 |_=>exact ⟨fun x e=>(by simp[fe] at e),fun e=>(by simp[fe] at e),fun f e=>(by simp[fe] at e)⟩
theorem rR (hp:Hp N0 w ν h):∀{as:List AV} {vs:List Value} {ds:List D},Rv w (nN N0 ν) ν as vs→dsOf (as.map (fe h.objs))=some ds→Rd w N0 ds vs
 |[],_,_,hr,hd=>by cases hr;simp[dsOf] at hd;subst hd;exact .nil
 |a::as,_,ds,hr,hd=>by
  obtain ⟨v,r,rfl,h1,h2⟩:=hr.cons_inv;obtain ⟨f1,f2,f3⟩:=flat1 hp h1;simp only[List.map_cons] at hd;generalize fe h.objs a=b at f1 f2 f3 hd;unfold dsOf at hd;split at hd
  ·rename_i e;cases e
  ·rename_i x r' e
   injection e with e1 e2
   subst e1 e2;simp only[Qan] at hd;obtain ⟨ds',hd',rfl⟩:=hd;exact (f1 x rfl).append (rR hp h2 hd')
  ·rename_i r' e
   injection e with e1 e2
   subst e1 e2;simp only[Qan] at hd;obtain ⟨ds',hd',rfl⟩:=hd;rw[f2 rfl];exact .list [] none 0 0 [] .nil (by simp) (.inl rfl) (Qag _) (Qaz _) (rR hp h2 hd')
  ·rename_i f r' e
   injection e with e1 e2
   subst e1 e2;simp only[Qan] at hd;obtain ⟨ds',hd',rfl⟩:=hd;rw[f3 f rfl];exact .fn f (rR hp h2 hd')
  ·cases hd
theorem oV (hp:Hp N0 w ν h) {ν0:Nat→Value}:∀{as:List AV} {vs:List Value},Rv w (nN N0 ν) ν as vs→Rv w N0 ν0 (aN h.objs as) vs:=by
 have m:Mv w (nN N0 ν) w N0:=⟨Qag _,fun b _ hb=>⟨fun g=>hb (.inl g),rfl⟩⟩;intro as vs hr
 induction hr with
 |nil=>simp only[aN];exact .nil
 |any v _ ih=>simp only[aN,ca];exact .any v ih
 |d h1 _ ih=>simp only[aN,ca];exact .d (h1.mv m) ih
 |nils _ ih=>simp only[aN,ca];exact .d (.list [] none 0 0 [] .nil (by simp) (.inl rfl) (Qag _) (Qaz _) .nil) ih
 |val v _ ih=>
  simp only[aN]
  cases v<;>simp only[ca]<;>first|exact .val _ ih|exact .d (.bool _ .nil) ih
 |agg xs _ _ ih1 ih2=>simp only[aN,ca];exact .agg xs ih1 ih2
 |tup xs _ _ ih1 ih2=>simp only[aN,ca];exact .tup xs ih1 ih2
 |@ptr as vs id b off h1 _ ih=>
  simp only[aN,ca];split
  ·rename_i t cs hl
   split
   ·rename_i x r hd
    obtain ⟨b',arr,e,p1,p2,p3⟩:=hp.objs _ _ hl;rw[h1] at p1;obtain rfl:b=b':=by injection p1 with q1;injection q1 with q1;injection q1
    have hrd:=rR hp (p3.drop off) hd;have hne:arr.toList.drop off≠[]:=fun e=>by have:=hrd.length;rw[e] at this;simp at this
    refine .at_ ⟨b,off,none⟩ (arr.toList.drop off) hne hrd (.inr ⟨b,off,rfl,hp.dis id b (by rw[h1];exact .leaf rfl),fun j v hv=>?_⟩) ih;rw[List.getElem?_drop] at hv;simpa [World.cell?,p2] using hv
   ·exact .any _ ih
  ·exact .any _ ih
 |at_ A cells h0 h1 h2 _ ih=>simp only[aN,ca];exact .at_ A cells h0 (h1.mv m) (h2.mv m) ih
 |rptr i off sz h1 hi _ ih=>simp only[aN,ca];exact .any _ ih
 |@own as vs id A k c h1 _ ih=>
  simp only[aN,ca];split
  ·rename_i rows hl
   exact .d (lc hp hl (fun b g=> .inl g) (fun b g=>hp.dis id b g) h1) ih
  ·exact .any _ ih
 |nest _ _ _ _ _ _ _ _ ih=>simp only[aN,ca];exact .any _ ih
 |mapr h1 _ ih=>simp only[aN,ca];exact .any _ ih
 |fn f xs _ _ ih1 ih2=>simp only[aN,ca];exact .fn f xs ih1 ih2
 |bfn f xs _ _ ih1 ih2=>simp only[aN,ca];exact .bfn f xs ih1 ih2
 |iface t _ _ ih1 ih2=>
  simp only[aN,ca] at ih1 ⊢;exact .iface t ih1 ih2
def Eo (ν:Nat→Value) (id:Nat):Option Addr×Nat:=match ac (ν id) with| .slice A _ c=>(A,c)|_=>(none,0)
theorem H5 (hp:Hp N0 w ν h) {ν0:Nat→Value}:∀{as:List AV} {vs:List Value},Rv w (nN N0 ν) ν as vs→Rv w (nN N0 ν) ν0 (bw h.objs (Eo ν) as) vs:=by
 intro as vs hr
 induction hr with
 |nil=>simp only[bw];exact .nil
 |any v _ ih=>simp only[bw,dz];exact .any v ih
 |d h1 _ ih=>simp only[bw,dz];exact .d h1 ih
 |nils _ ih=>simp only[bw,dz];exact .d (.list [] none 0 0 [] .nil (by simp) (.inl rfl) (Qag _) (Qaz _) .nil) ih
 |val v _ ih=>
  simp only[bw]
  cases v<;>simp only[dz]<;>first|exact .val _ ih|exact .d (.bool _ .nil) ih
 |agg xs _ _ ih1 ih2=>simp only[bw,dz];exact .agg xs ih1 ih2
 |tup xs _ _ ih1 ih2=>simp only[bw,dz];exact .tup xs ih1 ih2
 |ptr off h1 _ ih=>simp only[bw,dz];exact .any _ ih
 |at_ A cells h0 h1 h2 _ ih=>simp only[bw,dz];exact .at_ A cells h0 h1 h2 ih
 |rptr i off sz h1 hi _ ih=>simp only[bw,dz];exact .any _ ih
 |@own as vs id A k c h1 _ ih=>
  simp only[bw,dz];split
  ·rename_i t sz rows hl
   obtain ⟨A',c',cells,q1,_⟩:=hp.objs _ _ hl
   replace h1:=(hp.root hl).symm.trans h1
   rw[h1] at q1;injection q1 with e1 e2 e3
   subst e1 e2 e3;have:Eo ν id=(A,c):=by simp[Eo,h1,ac]
   rw[this];exact .val _ ih
  ·rename_i t sz fs rows hl
   obtain ⟨bs,hT,_⟩:=hp.objs _ _ hl;obtain ⟨A',c',q1⟩:=hT.root;rw[h1] at q1;injection q1 with e1 e2 e3
   subst e1 e2 e3;have:Eo ν id=(A,c):=by simp[Eo,h1]
   rw[this];exact .val _ ih
  ·exact .any _ ih
 |nest _ _ _ _ _ _ _ _ ih=>simp only[bw,dz];exact .any _ ih
 |mapr h1 _ ih=>simp only[bw,dz];exact .any _ ih
 |fn f xs _ _ ih1 ih2=>simp only[bw,dz];exact .any _ ih2
 |bfn f xs _ _ ih1 ih2=>simp only[bw,dz];exact .any _ ih2
 |iface t _ _ ih1 ih2=>simp only[bw,dz];exact .any _ ih2
theorem J7 {N N':Nat→Prop} {k:Nat} (m:Mv w N w N') (hν:∀id,ν' (id+k)=ν id):∀{as:List AV} {vs:List Value},Rv w N ν as vs→Rv w N' ν' (bO k as) vs:=by
 intro as vs hr
 induction hr with
 |nil=>simp only[bO];exact .nil
 |any v _ ih=>simp only[bO,dv];exact .any v ih
 |d h1 _ ih=>simp only[bO,dv];exact .d (h1.mv m) ih
 |nils _ ih=>simp only[bO,dv];exact .nils ih
 |val v _ ih=>simp only[bO,dv];exact .val v ih
 |agg xs _ _ ih1 ih2=>simp only[bO,dv];exact .agg xs ih1 ih2
 |tup xs _ _ ih1 ih2=>simp only[bO,dv];exact .tup xs ih1 ih2
 |ptr off h1 _ ih=>simp only[bO,dv];exact .any _ ih
 |at_ A cells h0 h1 h2 _ ih=>simp only[bO,dv];exact .at_ A cells h0 (h1.mv m) (h2.mv m) ih
 |rptr i off sz h1 hi _ ih=>simp only[bO,dv];exact .any _ ih
 |own h1 _ ih=>simp only[bO,dv];exact .own (by rw[hν,h1]) ih
 |nest _ _ _ _ _ _ _ _ ih=>simp only[bO,dv];exact .any _ ih
 |mapr h1 _ ih=>simp only[bO,dv];exact .any _ ih
 |fn f xs _ _ ih1 ih2=>simp only[bO,dv];exact .any _ ih2
 |bfn f xs _ _ ih1 ih2=>simp only[bO,dv];exact .any _ ih2
 |iface t _ _ ih1 ih2=>simp only[bO,dv];exact .any _ ih2
theorem oU {k:Nat} {l0 l2:List (Nat×AO)} {j:Nat} {o:AO}:∀{l:List (Nat×AO)},look (IW k l0 l l2) j=some o→
 (∃i,j=i+k∧((∃t sz rows,o= .row t sz rows)∨∃t sz fs rows,o= .tree t sz fs rows)∧look l0 i=some o)∨look l2 j=some o
 |[],h=> .inr (by simpa [IW] using h)
 |(i,x)::r,h=>by
  simp only[IW] at h;split at h
  ·rename_i t sz rows hl
   simp only[look] at h;by_cases e:j=i+k
   ·subst e
    rw[ga] at h;simp only[cond_true,Qab] at h;exact .inl ⟨i,rfl,.inl ⟨t,sz,rows,h.symm⟩,by rw[hl,h]⟩
   ·rw[eQ e] at h
    exact oU h
  ·rename_i t sz fs rows hl
   simp only[look] at h;by_cases e:j=i+k
   ·subst e
    rw[ga] at h;simp only[cond_true,Qab] at h;exact .inl ⟨i,rfl,.inr ⟨t,sz,fs,rows,h.symm⟩,by rw[hl,h]⟩
   ·rw[eQ e] at h
    exact oU h
  ·exact oU h
def JK (P:Program) (f:FuncId) (args:List AV) (h:Heap) (r:AV) (h':Heap):Prop:=
 ∀(N0:Nat→Prop) (w:World) (ν:Nat→Value) (vs:List Value),Hp N0 w ν h→Rv w (nN N0 ν) ν args vs→
  Calls P f vs.toArray w fun e w'=>∃v ν',e= .returned v∧Hp N0 w' ν' h'∧Rv w' (nN N0 ν') ν' [r] [v]∧Kp (fun b=>∃id,Ow (ν id) b) w w'∧
    (∀id,ν id≠undef→(∀A m c,ac (ν id)≠ .slice A m c)→ν' id=ν id)∧(∀id b,Ow (ν' id) b→(∃j,Ow (ν j) b)∨w.heap.size≤b)∧h'.lo=h.lo∧h.nx≤h'.nx
def y8 (mk:Value→Ending) (P:Program) (f:FuncId) (args:List AV) (h:Heap) (r:AV) (h':Heap):Prop:=
 ∀(N0:Nat→Prop) (w:World) (ν:Nat→Value) (vs:List Value),Hp N0 w ν h→Rv w (nN N0 ν) ν args vs→
  Calls P f vs.toArray w fun e w'=>∃v ν',e=mk v∧Hp N0 w' ν' h'∧Rv w' (nN N0 ν') ν' [r] [v]∧Kp (fun b=>∃id,Ow (ν id) b) w w'∧
    ((∀id,ν id≠undef→(∀A m c,ac (ν id)≠ .slice A m c)→ν' id=ν id)∧(∀id,ν id≠undef→ac (ν' id)=ac (ν id)))∧(∀id b,Ow (ν' id) b→(∃j,Ow (ν j) b)∨w.heap.size≤b)∧h'.lo=h.lo∧h.nx≤h'.nx
def JL (P:Program) (f:FuncId) (args:List AV) (h:Heap) (r:AV) (h':Heap):Prop:=y8 .returned P f args h r h'
def K7 (v:Value):Ending:= .panicked [{v:=v,recovered:=false}]
def JH (P:Program) (f:FuncId) (args:List AV) (r:AV):Prop:=
 ∀(N:Nat→Prop) (w:World) (vs:List Value),(∀b,N b→b<w.heap.size)→LwOk N w→Rv w N (fun _=>undef) args vs→
  Calls P f vs.toArray w fun e w'=>∃v,e= .returned v∧Kp (fun _=>False) w w'∧Rv w' N (fun _=>undef) [r] [v]
end
end Go.Vc
end
section
namespace Go.Vc
def uI (P:Program) (f:FuncId):Prop:=∃fn,P.funcs[f]? =some fn∧(fn.name== "runtime.NumGoroutine")=false∧fn.body.isNone=false
def CellsKeep (N:Nat→Prop) (A B:World):Prop:=A.heap.size≤B.heap.size∧∀a v,¬N a.block→A.cell? a=some v→B.cell? a=some v
def KpI (N0:Nat→Prop) (ν:Nat→Value) (h:Heap) (A B:World):Prop:=(Hp N0 A ν h→Hp N0 B ν h)∧CellsKeep (nN N0 ν) A B
abbrev Elem (w:World) (N:Nat→Prop) (ν:Nat→Value) (xs:List (List AV→Prop)):Type:={p:Nat×Array Value//∃h:p.1<xs.length,∃x,xs[p.1] x∧Rv w N ν x p.2.toList}
def JJ (P:Program) (f:FuncId) (caps:List AV) (h:Heap) (xs:List (List AV→Prop)):Prop:=
 ∀(N0:Nat→Prop) (w:World) (ν:Nat→Value) (lb:List Value),Hp N0 w ν h→Rv w (nN N0 ν) ν caps lb→
  SeqStopsK (α:=Elem w (nN N0 ν) ν xs) (G none) 0 P f lb.toArray (fun x=>x.1.2) (KpI N0 ν h) (fun ys=>ys.map (fun y=>y.1.1)=List.range xs.length) (fun _=>True) xs.length w
def am (P:Program) (fx:Bool):bg:=
 ⟨fun f args r=>uI P f∧JH P f args r,fun f args h r h'=>uI P f∧JK P f args h r h',fun f caps h xs=>uI P f∧JJ P f caps h xs,fun f args h r h'=>uI P f∧JL P f args h r h',fx,fun f args h r h'=>uI P f∧y8 K7 P f args h r h'⟩
abbrev dF (P:Program):bg:=am P false
section
variable {P:Program} {ro:Option Nat} {q:Md} {T:List (Nat×TI)} {N0 Nf:Nat→Prop} {w0 w w':World} {n:Nat} {σ:Env} {h:Heap} {a:Act} {ν ν' ν0:Nat→Value} {Q:Exit→Act→World→Prop} {next:Act→World→Prop}
theorem fP {f:FuncId} (he:uI P f) (args:Array Value) (w:World):(callFunc f args).run P w= .ok (.enter f args) w:=by
 obtain ⟨fn,h1,h2,h3⟩:=he;simp only[callFunc,Sem.run_bind,run_program,Qaf,h1,h2,h3];rfl
theorem k9 {o:Oper} {c:Call} {x:Operand} {f:FuncId} {caps:Array Value} (hop:o.op= .call c) (hc:c.callee= .value x) (hx:a.eval x= .func (.func f) #[] caps) (he:uI P f):
 (execOp a.eval o).run P w= .ok (.enter f (c.args.map a.eval++caps)) w:=by
 unfold execOp;rw[hop];simp only[resolve,hc,hx,Deferred.ofValue,Sem.run_bind,Sem.run_pure,Qaf,invoke,Array.empty_append];exact fP he _ w
theorem og {o:Oper} {c:Call} {x:Operand} {f:FuncId} {first:Array Value} (hop:o.op= .call c) (hc:c.callee= .value x) (hx:a.eval x= .func (.func f) first #[]) (he:uI P f):
 (execOp a.eval o).run P w= .ok (.enter f (first++c.args.map a.eval)) w:=by
 unfold execOp;rw[hop];simp only[resolve,hc,hx,Deferred.ofValue,Sem.run_bind,Sem.run_pure,Qaf,invoke,Array.append_empty];exact fP he _ w
theorem BT {t:TypeId} {ti:TI} (k:fH P t ti) (hp:ti.kind≠ .ptr) {name:String} {f:FuncId} (hm:ti.meths.lookup name=some f) (v:Value) (fuel:Nat) (w:World):
 (method (fuel+1) t v name).run P w= .ok (f,v) w:=by
 obtain ⟨i,z,h1,_,_,_,_,_,h7,_⟩:=k.info;obtain ⟨d,h8,h9⟩:=k.kind
 have hmem:(name,f)∈ti.meths:=by
  generalize ti.meths=l at hm
  induction l with
  |nil=>cases hm
  |cons p l ih=>
   obtain ⟨nm,g⟩:=p;simp only[List.lookup] at hm;split at hm
   ·rename_i hb
    have:name=nm:=by simpa using hb
    simp only[Qab] at hm;subst this hm;exact Qao
   ·exact Qax _ (ih hm)
 have h10:=List.all_eq_true.1 h7 _ hmem;simp only[Gx] at h10;split at h10
 ·rename_i m hfind
  simp only[Qac] at h10;obtain ⟨h11,h12⟩:=h10;split at h12
  ·rename_i f' p hf
   simp only[Qac,QaH] at h12;obtain ⟨h13,rfl⟩:=h12;have e:=Qae h13;subst e;have hpath:m.path= #[]:=by simpa using h11
   have hnp:∀e,d≠ .pointer e:=by
    intro e hd;subst hd;unfold eD at h9;split at h9<;>simp_all
   simp only[method,Sem.run_bind,typeInfo,run_program,Qaf,h1,Sem.run_pure,hfind,hpath,Array.toList_empty,follow,hf,receiverAt,run_underlying h8];cases d<;>first|(exact absurd rfl (hnp _))|(simp[Place.get])
  ·cases h12
 ·cases h10
theorem kD {o:Oper} {c:Call} {x:Operand} {name:String} {t:TypeId} {v:Value} {ti:TI} {f:FuncId} (hop:o.op= .call c) (hc:c.callee= .invoke x name) (hx:a.eval x= .iface t v)
 (k:fH P t ti) (hp:ti.kind≠ .ptr) (hm:ti.meths.lookup name=some f) (he:uI P f):
 (execOp a.eval o).run P w= .ok (.enter f (#[v]++c.args.map a.eval)) w:=by
 unfold execOp;rw[hop];obtain ⟨i,z,h1,_⟩:=k.info;have hsz:∃q,P.types.size+Made.depth=q+1:=⟨P.types.size+Made.depth - 1,Nat.eq_add_of_sub_eq (Qat (by decide) (Nat.le_add_left _ _)) rfl⟩;obtain ⟨q,hq⟩:=hsz;simp only[resolve,hc,hx,Sem.run_bind,Sem.run_pure,Qaf,invoke];rw[show ((#[Value.iface t v]++c.args.map a.eval)[0]?)=some (.iface t v) from by rw[Array.getElem?_append_left (by simp)];rfl];simp only[callMethod,Sem.run_bind,run_program,Qaf,hq,BT k hp hm];rw[fP he]
 congr 2
 simp only[Array.extract_append,List.size_toArray,List.length_cons,List.length_nil]
 have e:(Array.map a.eval c.args).extract 0 c.args.size=Array.map a.eval c.args:=by
  rw[show c.args.size=(Array.map a.eval c.args).size from by simp,Array.extract_size]
 simp[e]
theorem lE (s:St q N0 w0 Nf n ν0 σ h a w ν) {σ1:Env} {h1:Heap} {ν1:Nat→Value} (s1:St q N0 w0 Nf n ν0 σ1 h1 a w ν1) (hsub:∀b,nN N0 ν1 b→nN N0 ν b) (hown:∀j b,Ow (ν1 j) b→∃i,Ow (ν i) b) (hk1:∀j,(∀A k c,ac (ν j)≠ .slice A k c)→ν1 j=ν j) (hlo1:h1.lo=h.lo) (hnx1:h1.nx=h.nx)
 {o:Oper} {f:FuncId} {args:List AV} {vs:List Value} (hargs:Rv w (nN N0 ν1) ν1 args vs) {K:AV→Heap→Rn→Prop} {r:AV} {h':Heap}
 (hfx:q.fx=false) (hv:(am P q.fx).heap f args h1 r h') (hk:K r h' .drop) (hrun:uI P f→(execOp a.eval o).run P w= .ok (.enter f vs.toArray) w)
 (hn:∀r h' m a' w' ν',K r h' m→St q N0 w0 Nf n ν0 ((σ.ren m).putO n o.dst r) h' a' w' ν'→next a' w'):o.wpIn (G ro) 0 P a w next Q:=by
 obtain ⟨he,hc⟩:=hv;refine gN (hrun he) ?_;refine (hc N0 w ν1 vs s1.hp hargs).mono fun e w' ⟨v,ν',he',hhp,hr,hkp,hkeep,hnew,hlo,hlo2⟩=>⟨v,he',hn r h' .drop _ w' ν' hk ?_⟩
 have m1:Mv w (nN N0 ν1) w' (nN N0 ν'):=by
  refine ⟨hkp.size,fun b hb hN=>⟨?_,hkp.blk b hb (fun g=>hN (.inr g))⟩⟩;rintro (g|⟨j,g⟩)
  ·exact hN (.inl g)
  ·rcases hnew j b g with g|g
   ·exact hN (.inr g)
   ·omega
 have m:Mv w (nN N0 ν) w' (nN N0 ν'):=⟨m1.size,fun b hb hN=>m1.blk b hb (fun g=>hN (hsub b g))⟩
 have hkeep':∀id,ν id≠undef→(∀A m c,ac (ν id)≠ .slice A m c)→ν' id=ν id:=fun id g1 g2=>by
  rw[hkeep id (by rw[hk1 id g2];exact g1) (by intro A m c;rw[hk1 id g2];exact g2 A m c),hk1 id g2]
 refine ⟨dA (fun k=>?_) s.size o.dst hr,hhp,s.kp.trans hkp (fun x hx ⟨j,g⟩=>?_),fun i b g=>?_,by rw[e9,s.size],by rw[dq];exact s.defers.mv (fun b hb hn=>hkp.blk b hb (fun ⟨j,g⟩=>by obtain ⟨i,gi⟩:=hown j b g;exact hn i gi)) (fun i b g=>by rcases hnew i b g with ⟨j,g⟩|g;exact .inl (hown j b g);exact .inr g),⟨fun i h1 h2=>?_,fun hf=>(by rw[hfx] at hf;cases hf)⟩,by rw[hlo,hlo1];exact Qat s.low.1 (hnx1▸hlo2),by rw[hlo,hlo1];exact s.low.2⟩
 ·have:=(s.slots k).noOwn m hkeep'
  simpa [aT,Env.ren] using this
 ·rcases s1.fresh j x g with g|g
  ·omega
  ·exact g
 ·rcases hnew i b g with ⟨j,g⟩|g
  ·exact s1.fresh j b g
  ·left;have:=s.kp.size;omega
 ·have e:=s.keep.1 i h1 h2
  rw[hkeep' i (by rw[e];exact h1) (by intro A m c;rw[e];exact h2 A m c),e]
theorem lU {r:AV} {v:Value} {N N':Nat→Prop} {w':World} {ν ν':Nat→Value} (hs:AV.scalar r=true) (hr:Rv w N ν [r] [v]):Rv w' N' ν' [r] [v]:=by
 unfold AV.scalar at hs;split at hs
 ·rw[dj hr];exact .d (.int _ _ .nil) .nil
 ·rw[bU hr];exact .d (.bool _ .nil) .nil
 ·obtain ⟨e1,e2⟩:=fN hr;rw[e1];exact .d (.str _ e2 .nil) .nil
 ·cases hs
theorem BK {r:AV} {v:Value} {N N':Nat→Prop} {w':World} {ν ν':Nat→Value} (hs:nt r=true) (hr:Rv w N ν [r] [v]):Rv w' N' ν' [r] [v]:=by
 unfold nt at hs;split at hs
 ·rename_i cs
  obtain ⟨xs,rfl,h⟩:=je hr;refine .agg xs ?_ .nil;clear hr
  induction cs generalizing xs with
  |nil=>cases h;exact .nil
  |cons c cs ih=>
   obtain ⟨v,r,rfl,h1,h2⟩:=h.cons_inv;rw[List.all_cons,Qac] at hs;exact (lU hs.1 h1).cons (ih hs.2 r h2)
 ·exact lU hs hr
theorem tT (s:St q N0 w0 Nf n ν0 σ h a w ν) {o:Oper} {f:FuncId} {args:List AV} {vs:List Value} (hargs:Rv w (nN N0 ν) ν args vs) {K:AV→Heap→Rn→Prop} {r:AV}
 (hs:AV.scalar r=true) (hv:(am P q.fx).pure f (aN h.objs args) r) (hk:K r h (.sub [])) (hrun:uI P f→(execOp a.eval o).run P w= .ok (.enter f vs.toArray) w)
 (hn:∀r h' m a' w' ν',K r h' m→St q N0 w0 Nf n ν0 ((σ.ren m).putO n o.dst r) h' a' w' ν'→next a' w'):o.wpIn (G ro) 0 P a w next Q:=by
 obtain ⟨he,hc⟩:=hv;refine gN (hrun he) ?_;refine (hc N0 w vs s.hp.n0 s.hp.lw (oV s.hp hargs)).mono fun e w' ⟨v,he',hkp,hr⟩=>⟨v,he',hn r h (.sub []) _ w' ν hk (s.seen hkp o.dst (lU hs hr))⟩
theorem LwOk.nN (h:LwOk N0 w) (ν:Nat→Value):LwOk (nN N0 ν) w:=fun p hp=>⟨.inl (h p hp).1,(h p hp).2⟩
theorem Hp.all (hp:Hp N0 w ν h):∀b,nN N0 ν b→b<w.heap.size:=fun b g=>g.elim (hp.n0 b) (fun ⟨id,g⟩=>hp.bnd id b g)
theorem tW (s:St q N0 w0 Nf n ν0 σ h a w ν) {o:Oper} {f:FuncId} {args:List AV} {vs:List Value} (hargs:Rv w (nN N0 ν) ν args vs) {K:AV→Heap→Rn→Prop} {r:AV}
 (hv:∀g,(am P q.fx).pure f (bw h.objs g args) r) (hk:K r h (.sub [])) (hrun:uI P f→(execOp a.eval o).run P w= .ok (.enter f vs.toArray) w)
 (hn:∀r h' m a' w' ν',K r h' m→St q N0 w0 Nf n ν0 ((σ.ren m).putO n o.dst r) h' a' w' ν'→next a' w'):o.wpIn (G ro) 0 P a w next Q:=by
 obtain ⟨he,hc⟩:=hv (Eo ν);refine gN (hrun he) ?_;refine (hc (nN N0 ν) w vs s.hp.all (s.hp.lw.nN ν) (H5 s.hp hargs)).mono fun e w' ⟨v,he',hkp,hr⟩=>⟨v,he',hn r h (.sub []) _ w' ν hk (s.seen hkp o.dst (hr.mv (Mv.refl _ _) (fun _ h=>absurd rfl h)))⟩
theorem HM {k:Nat} {w':World} {N N':Nat→Prop} {ν':Nat→Value} (hν:∀id,ν' (id+k)=ν id):∀{as:List AV} {vs:List Value},Rv w N ν as vs→dE as=true→Rv w' N' ν' (bO k as) vs:=by
 intro as vs h
 induction h with
 |nil=>intro _;simp only[bO];exact .nil
 |any v _ ih=>intro hs;simp[dE,it] at hs
 |@d as vs x v h _ ih=>
  intro hs;simp only[dE,Qac] at hs;have ih:=ih hs.2;simp only[bO,dv];have hs:=hs.1;unfold it at hs;split at hs<;>simp_all
  ·cases h;exact .d (.int _ _ .nil) ih
  ·cases h;exact .d (.bool _ .nil) ih
  ·cases h with|str _ hs _=>exact .d (.str _ hs .nil) ih
 |nils _ ih=>intro hs;simp only[dE,Qac] at hs;simp only[bO,dv];exact .nils (ih hs.2)
 |val v _ ih=>intro hs;simp only[dE,Qac] at hs;simp only[bO,dv];exact .val v (ih hs.2)
 |agg xs _ _ ih1 ih2=>intro hs;simp only[dE,it,Qac] at hs;simp only[bO,dv];exact .agg xs (ih1 hs.1) (ih2 hs.2)
 |tup xs _ _ ih1 ih2=>intro hs;simp only[dE,it,Qac] at hs;simp only[bO,dv];exact .tup xs (ih1 hs.1) (ih2 hs.2)
 |own h1 _ ih=>intro hs;simp only[dE,Qac] at hs;simp only[bO,dv];exact .own (by rw[hν,h1]) (ih hs.2)
 |_=>intro hs;simp[dE,it] at hs
theorem sf:∀{l:List (Nat×AO)} {i:Nat} {o:AO},mQ l=true→look l i=some o→∃t sz fs rows,o= .tree t sz fs rows
 |[],_,_,_,h=>by simp[look] at h
 |(k,x)::r,i,o,ht,h=>by
  simp only[look] at h
  cases x with
  |tree t sz fs rows=>
   simp only[mQ] at ht;by_cases e:i=k
   ·subst e;rw[ga] at h;simp only[cond_true,Qab] at h;exact ⟨_,_,_,_,h.symm⟩
   ·rw[eQ e] at h;exact sf ht h
  |_=>simp[mQ] at ht
theorem mB (s:St q N0 w0 Nf n ν0 σ h a w ν) {o:Oper} {f:FuncId} {args:List AV} {vs:List Value} {N1:Nat→Prop} (hN1:∀b,N1 b→nN N0 ν b) (hN2:∀b,N0 b→N1 b)
 (ha:Rv w N1 (fun _=>undef) args vs) {K:AV→Heap→Rn→Prop} {r:AV} {h':Heap} (hsh:N1=nN N0 ν∨(mQ h'.objs&&it r)=true)
 (hv:(am P q.fx).heap f args hp0 r h') (hk:K (dv h.nx r) (h.join h') (.sub [])) (hrun:uI P f→(execOp a.eval o).run P w= .ok (.enter f vs.toArray) w)
 (hn:∀r h' m a' w' ν',K r h' m→St q N0 w0 Nf n ν0 ((σ.ren m).putO n o.dst r) h' a' w' ν'→next a' w'):o.wpIn (G ro) 0 P a w next Q:=by
 obtain ⟨he,hc⟩:=hv;refine gN (hrun he) ?_;have hNe:nN N1 (fun _=>undef)=N1:=by funext b;simp[nN]
 have hp1:Hp N1 w (fun _=>undef) hp0:=⟨fun id o ho=>by simp[look,hp0] at ho,fun i j b g=>by simp at g,fun i b g=>by simp at g,fun _ _=>rfl,fun b g=>s.hp.all b (hN1 b g),fun i b g=>by simp at g,fun p hp=>⟨hN2 _ (s.hp.lw p hp).1,(s.hp.lw p hp).2⟩⟩;refine (hc N1 w (fun _=>undef) vs hp1 (by rw[hNe];exact ha)).mono fun e w' ⟨v,ν',he',hhp,hr,hkp,hkeep,hnew,hlo,hlo2⟩=>⟨v,he',?_⟩;have hkp:Kp (fun _=>False) w w':=⟨hkp.os,hkp.tape,hkp.output,hkp.size,fun b hb _=>hkp.blk b hb (by simp)⟩
 have hnew:∀id b,Ow (ν' id) b→w.heap.size≤b:=fun id b g=>by
  rcases hnew id b g with ⟨j,g⟩|g
  ·simp at g
  ·exact g
 have hb:∀b,b<w.heap.size→w'.heap[b]? =w.heap[b]? :=fun b hlt=>hkp.blk b hlt (fun g=>g)
 let ν2:Nat→Value:=fun i=>if i<h.nx then ν i else ν' (i - h.nx)
 have hlow:∀i,ν i≠undef→ν2 i=ν i:=fun i g=>by
  have:i<h.nx:=by rcases Qaq i h.nx with q|q;exact q;exact absurd (s.hp.dom i q) g
  simp[ν2,this]
 have hhi:∀i,ν2 (i+h.nx)=ν' i:=fun i=>by
  have:¬i+h.nx<h.nx:=by omega
  simp[ν2,this]
 have hblk:∀i b,Ow (ν2 i) b→Ow (ν i) b∨w.heap.size≤b:=fun i b g=>by
  by_cases q:i<h.nx
  ·left;simpa [ν2,q] using g
  ·right;simp only[ν2,if_neg q] at g;exact hnew _ b g
 have m:Mv w (nN N0 ν) w' (nN N0 ν2):=Hp.mvN s.hp hkp.size (fun _=>False) (fun b hlt _=>hb b hlt) (fun b g=>g.elim) hblk
 have hmv2:N1=nN N0 ν→Mv w' (nN N1 ν') w' (nN N0 ν2):=by
  rintro rfl;refine ⟨Qag _,fun b _ g=>⟨fun g'=>g ?_,rfl⟩⟩;rcases g' with g|⟨i,g⟩
  ·exact .inl (.inl g)
  ·by_cases q:i<h.nx
   ·exact .inl (.inr ⟨i,by simpa [ν2,q] using g⟩)
   ·exact .inr ⟨i - h.nx,by simpa [ν2,q] using g⟩
 refine hn _ _ (.sub []) _ w' ν2 hk ?_
 have hr2:Rv w' (nN N0 ν2) ν2 [dv h.nx r] [v]:=by
  rcases hsh with hsh|hsh
  ·have:=J7 (k:=h.nx) (hmv2 hsh) hhi hr
   simpa only[bO] using this
  ·simp only[Qac] at hsh
   have:=HM (k:=h.nx) (w':=w') (N':=nN N0 ν2) hhi hr (by simp[dE,hsh.2]);simpa only[bO] using this
 refine ⟨dA (fun k=>(s.slots k).mv m hlow) s.size o.dst hr2,⟨?_,?_,?_,?_,?_,?_,?_⟩,s.kp.trans hkp (fun _ _ g=>g.elim),fun i b g=>?_,by rw[e9,s.size],?_,⟨fun i g1 g2=>?_,fun hf i g1=>?_⟩,?_,s.low.2⟩
 ·intro id o' ho
  rcases oU ho with ⟨i,rfl,⟨t,sz,rows,rfl⟩|⟨t,sz,fs,rows,rfl⟩,hl⟩|hl
  ·rcases hsh with hsh|hsh
   ·obtain ⟨A,c,cells,q1,q2,q3,q4,q5,q6⟩:=hhp.objs i _ hl
    refine ⟨A,c,cells,by rw[hhi,q1],q2.mv (hmv2 hsh),q3,q4,q5,?_⟩;rw[hhi];exact q6
   ·simp only[Qac] at hsh
    obtain ⟨_,_,_,_,e⟩:=sf hsh.1 hl;cases e
  ·obtain ⟨bs,q1,q2⟩:=hhp.objs i _ hl
   exact ⟨bs,by rw[hhi];exact q1,q2⟩
  ·exact Ro.keep m hlow (fun b g=>hb b (s.hp.bnd id b g)) (s.hp.objs id o' hl)
 ·intro i j b g1 g2
  by_cases q1:i<h.nx<;>by_cases q2:j<h.nx<;>simp only[ν2,q1,q2,if_true,if_false] at g1 g2
  ·exact s.hp.inj i j b g1 g2
  ·have:=s.hp.bnd i b g1;have:=hnew _ b g2;omega
  ·have:=s.hp.bnd j b g2;have:=hnew _ b g1;omega
  ·have:=hhp.inj _ _ b g1 g2;omega
 ·intro i b g
  by_cases q:i<h.nx<;>simp only[ν2,q,if_true,if_false] at g
  ·exact Qai (s.hp.bnd i b g) hkp.size
  ·exact hhp.bnd _ b g
 ·intro i hi
  simp only[Heap.join] at hi;have q:¬i<h.nx:=by omega
  simp only[ν2,q,if_false];exact hhp.dom _ (by omega)
 ·exact fun b g=>Qai (s.hp.n0 b g) hkp.size
 ·intro i b g g0
  rcases hblk i b g with g|g
  ·exact s.hp.dis i b g g0
  ·have:=s.hp.n0 b g0;omega
 ·exact s.hp.lw.mv (fun b g hlt=>hb b hlt)
 ·rcases hblk i b g with g|g
  ·exact s.fresh i b g
  ·left;have:=s.kp.size;omega
 ·rw[dq]
  exact s.defers.mv (fun b hlt _=>hb b hlt) (fun i b g=>by rcases hblk i b g with g|g;exact .inl ⟨i,g⟩;exact .inr g)
 ·have e:=s.keep.1 i g1 g2
  rw[hlow i (by rw[e];exact g1),e]
 ·have e:=s.keep.2 hf i g1
  by_cases hu:ν i=undef
  ·have hi:i<h.nx:=by
    rcases Qaq i h.nx with q|q
    ·exact q
    ·exact absurd (s.low.2 i (Qat s.low.1 q)) g1
   simpa [ν2,hi] using e
  ·rw[hlow i hu];exact e
 ·exact Qat s.low.1 (by simp only[Heap.join];omega)
theorem rA (s:St q N0 w0 Nf n ν0 σ h a w ν) {o:Oper} {f:FuncId} {args:List AV} {vs:List Value} (hargs:Rv w (nN N0 ν) ν args vs) {K:AV→Heap→Rn→Prop} {r:AV} {h':Heap}
 (hlt:ba 0 args=true) (hv:(am P q.fx).heap f args hp0 r h') (hk:K (dv h.nx r) (h.join h') (.sub [])) (hrun:uI P f→(execOp a.eval o).run P w= .ok (.enter f vs.toArray) w)
 (hn:∀r h' m a' w' ν',K r h' m→St q N0 w0 Nf n ν0 ((σ.ren m).putO n o.dst r) h' a' w' ν'→next a' w'):o.wpIn (G ro) 0 P a w next Q:=
 mB s (N1:=nN N0 ν) (fun _ g=>g) (fun _ g=> .inl g) (hargs.lt (Mv.refl _ _) (fun id hid=>by omega) hlt) (.inl rfl) hv hk hrun hn
theorem rY (s:St q N0 w0 Nf n ν0 σ h a w ν) {o:Oper} {f:FuncId} {args:List AV} {vs:List Value} (hargs:Rv w (nN N0 ν) ν args vs) {K:AV→Heap→Rn→Prop} {r:AV} {h':Heap}
 (hv:(am P q.fx).heap f (aN h.objs args) hp0 r h') (hsh:(mQ h'.objs&&it r)=true) (hk:K (dv h.nx r) (h.join h') (.sub [])) (hrun:uI P f→(execOp a.eval o).run P w= .ok (.enter f vs.toArray) w)
 (hn:∀r h' m a' w' ν',K r h' m→St q N0 w0 Nf n ν0 ((σ.ren m).putO n o.dst r) h' a' w' ν'→next a' w'):o.wpIn (G ro) 0 P a w next Q:=
 mB s (N1:=N0) (fun _ g=> .inl g) (fun _ g=>g) (oV s.hp hargs) (.inr hsh) hv hk hrun hn
theorem wD:∀{ids:List Nat} {n k j:Nat},Cn ids n k=some j→n≤j∧ids[j - n]? =some k
 |[],n,k,j,h=>by simp[Cn] at h
 |i::is,n,k,j,h=>by
  simp only[Cn] at h;by_cases e:k=i
  ·subst e
   rw[ga] at h;simp only[cond_true,Qab] at h;subst h;simp
  ·rw[eQ e] at h
   obtain ⟨h1,h2⟩:=wD (ids:=is) h;refine ⟨by omega,?_⟩;rw[show j - n=(j - (n+1))+1 from by omega];exact h2
theorem lz:∀{ids:List Nat} {n k:Nat},k∈ids→∃j,Cn ids n k=some j
 |[],n,k,h=>by cases h
 |i::is,n,k,h=>by
  simp only[Cn];by_cases e:k=i
  ·subst e;rw[ga];exact ⟨n,rfl⟩
  ·rw[eQ e];exact lz ((List.mem_cons.1 h).resolve_left e)
theorem gx {ids:List Nat} {k j:Nat} (h:ly ids k=some j):ids[j]? =some k:=by
 have:=(wD h).2;simpa using this
theorem jE:∀{l:List Nat},gu l=true→l.Nodup
 |[],_=>List.nodup_nil
 |i::is,h=>by
  simp only[gu,Qac,QaH] at h;refine List.nodup_cons.2 ⟨fun g=>?_,jE h.2⟩;rw[anyN.2 g] at h;cases h.1
theorem yx {ids:List Nat} (hnd:ids.Nodup) {k j:Nat} (h:ids[j]? =some k):ly ids k=some j:=by
 obtain ⟨j',hj⟩:=lz (n:=0) (Qas h);have h2:=gx hj
 have:j'=j:=by
  obtain ⟨b1,b2⟩:=List.getElem?_eq_some_iff.1 h2;exact (List.getElem?_inj b1 hnd).1 (h2.trans h.symm)
 subst this;exact hj
theorem wC {ids:List Nat} {k:Nat} (h:k ∉ ids):ly ids k=none:=by
 cases e:ly ids k with
 |none=>rfl
 |some j=>exact absurd (Qas (gx e)) h
theorem oQ {ids:List Nat} {l:List (Nat×AO)}:∀{is:List Nat} {n:Nat} {r:List (Nat×AO)},nR ids l is n=some r→
 (∀j o,look r j=some o→∃i o0,n≤j∧is[j - n]? =some i∧look l i=some o0∧o=o0.map' (ly ids))∧∀i∈is,∃o,look l i=some o
 |[],n,r,h=>by
  simp only[nR,Qab] at h;subst h
  exact ⟨fun j o h=>(by simp[look] at h),fun i h=>(by cases h)⟩
 |i::is,n,r,h=>by
  simp only[nR] at h;split at h
  ·rename_i o0 ho
   split at h
   ·rename_i r' hr
    simp only[Qab] at h;subst h;obtain ⟨g1,g2⟩:=oQ hr;refine ⟨fun j o hl=>?_,fun k hk=>?_⟩
    ·simp only[look] at hl
     by_cases e:j=n
     ·subst e
      rw[ga] at hl;simp only[cond_true,Qab] at hl;exact ⟨i,o0,Qag _,by simp,ho,hl.symm⟩
     ·rw[eQ e] at hl
      obtain ⟨k,o1,h1,h2,h3,h4⟩:=g1 j o hl;refine ⟨k,o1,by omega,?_,h3,h4⟩;rw[show j - n=(j - (n+1))+1 from by omega];exact h2
    ·rcases List.mem_cons.1 hk with rfl|hk
     ·exact ⟨o0,ho⟩
     ·exact g2 k hk
   ·cases h
  ·cases h
theorem CB {ids:List Nat} {nx j i:Nat} (h:iQ ids nx j=some i):ids[j]? =some i∨(ids.length≤j∧i=j+nx):=by
 unfold iQ at h
 cases e:ids[j]? with
 |some k=>rw[e] at h;exact .inl h
 |none=>rw[e] at h;injection h with h;exact .inr ⟨List.getElem?_eq_none_iff.1 e,h.symm⟩
theorem ww {ids:List Nat} {nx:Nat} (hnd:ids.Nodup) (hlt:∀i∈ids,i<nx) {rest:List (Nat×AO)}:∀{l:List (Nat×AO)} {id:Nat} {o:AO},look (CA ids nx rest l) id=some o→
 (∃j o',look l j=some o'∧iQ ids nx j=some id∧o=o'.map' (iQ ids nx))∨look rest id=some o
 |[],id,o,h=> .inr (by simpa [CA] using h)
 |(j0,o0)::r,id,o,h=>by
  simp only[CA] at h
  have key:look (CA ids nx rest r) id=some o→iQ ids nx j0≠some id→(∃j o',look ((j0,o0)::r) j=some o'∧iQ ids nx j=some id∧o=o'.map' (iQ ids nx))∨look rest id=some o:=by
    intro h hne;rcases ww hnd hlt h with ⟨j,o',h1,h2,h3⟩|h
    ·refine .inl ⟨j,o',?_,h2,h3⟩
     simp only[look];rw[eQ (fun e=>hne (by rw[←e];exact h2))];exact h1
    ·exact .inr h
  split at h
  ·rename_i i hi
   simp only[look] at h;by_cases e:id=i
   ·subst e
    rw[ga] at h;simp only[cond_true,Qab] at h;exact .inl ⟨j0,o0,by simp[look,ga],hi,h.symm⟩
   ·rw[eQ e] at h
    exact key h (fun g=>e (by rw[hi] at g;injection g with g;exact g.symm))
  ·rename_i hi
   exact key h (fun g=>by rw[hi] at g;cases g)
theorem E5 (ks:List Nat) (l:List (Nat×AO)) (j:Nat):look (Fg ks l) j=bif ks.any (Qaa j) then none else (look l j).map (AO.unn []):=by
 induction l with
 |nil=>simp[Fg,look]
 |cons p l ih=>
  obtain ⟨k,o⟩:=p;simp only[Fg]
  cases hk:ks.any (Qaa k) with
  |true=>
   simp only[cond_true,ih,look];by_cases e:j=k
   ·subst e;rw[hk];rfl
   ·rw[eQ e];rfl
  |false=>
   simp only[cond_false,look];by_cases e:j=k
   ·subst e;rw[ga,hk];rfl
   ·rw[eQ e];exact ih
theorem Ro.ne {N:Nat→Prop} {id:Nat} {o:AO} (h:Ro w N ν id o):ν id≠undef:=by
 cases o with
 |cells t cs=>obtain ⟨b,arr,e,h1,_⟩:=h;rw[h1];simp[undef]
 |row t sz rows=>obtain ⟨A,c,cells,h1,_⟩:=h;rw[h1];simp[undef]
 |tree t sz fs rows=>obtain ⟨bs,h1,_⟩:=h;exact h1.ne
 |map t tk es=>obtain ⟨r,arr,clock,h1,_⟩:=h;rw[h1];simp[undef]
theorem Same.rootEq {x y:Value} (h:Same x y):ac y=ac x:=by
 rcases h with h|⟨A,n,c,h1,h2⟩
 ·rw[h]
 ·rw[h1,h2]
theorem Same.nonslice {x y:Value} (h:Same x y) (hn:∀A n c,ac x≠ .slice A n c):y=x:=by
 rcases h with h|⟨A,n,c,h1,h2⟩
 ·exact h
 ·exact absurd h1 (hn _ _ _)
theorem ue (mk:Value→Ending) (s:St q N0 w0 Nf n ν0 σ h a w ν) {f:FuncId} {args as:List AV} {vs:List Value} (hargs:Rv w (nN N0 ν) ν args vs) {ids:List Nat} {r:AV} {h' hc:Heap}
 (hnd:gu ids=true) (hsub:j4 ids h=some hc) (has:as=aG (ly ids) args∨as=bb (ly ids) args) (hcon:y8 mk P f as hc r h'):
 Calls P f vs.toArray w fun e w'=>∃v ν2,e=mk v∧St q N0 w0 Nf n ν0 (σ.ren (.tsub [])) (d9 ids h h') a w' ν2∧Rv w' (nN N0 ν2) ν2 [AV.map (iQ ids h.nx) r] [v]:=by
 have hnd:=jE hnd;unfold j4 at hsub;split at hsub
 case h_2=>cases hsub
 rename_i l hl;simp only[Qab] at hsub;subst hsub;obtain ⟨hl1,hl2⟩:=oQ hl;have hne:∀i∈ids,ν i≠undef:=fun i hi=>by obtain ⟨o,ho⟩:=hl2 i hi;exact (s.hp.objs i o ho).ne
 have hlt:∀i∈ids,i<h.nx:=fun i hi=>by
  rcases Qaq i h.nx with q|q
  ·exact q
  ·exact absurd (s.hp.dom i q) (hne i hi)
 let νc:Nat→Value:=fun j=>match ids[j]? with|some i=>ν i|none=>undef
 have hνc:∀i j,ids[j]? =some i→νc j=ν i:=fun i j e=>by simp[νc,e]
 have hcow:∀j b,Ow (νc j) b→∃i,ids[j]? =some i∧Ow (ν i) b:=fun j b g=>by
  cases e:ids[j]? with
  |none=>simp[νc,e] at g
  |some i=>exact ⟨i,rfl,by rw[←hνc i j e];exact g⟩
 let N1:Nat→Prop:=fun b=>N0 b∨∃i,i ∉ ids∧Ow (ν i) b
 have hN:∀b,nN N1 νc b↔nN N0 ν b:=fun b=>by
  constructor
  ·rintro ((g|⟨i,_,g⟩)|⟨j,g⟩)
   ·exact .inl g
   ·exact .inr ⟨i,g⟩
   ·obtain ⟨i,_,g⟩:=hcow j b g;exact .inr ⟨i,g⟩
  ·rintro (g|⟨i,g⟩)
   ·exact .inl (.inl g)
   ·by_cases hi:i∈ids
    ·obtain ⟨j,hj⟩:=lz (n:=0) hi
     exact .inr ⟨j,by rw[hνc i j (gx hj)];exact g⟩
    ·exact .inl (.inr ⟨i,hi,g⟩)
 have m0:Mv w (nN N0 ν) w (nN N1 νc):=⟨Qag _,fun b _ g=>⟨fun g'=>g ((hN b).1 g'),rfl⟩⟩;have hS0:∀i j,ly ids i=some j→ν i≠undef→Same (ν i) (νc j):=fun i j e _=> .inl (hνc i j (gx e))
 have hp1:Hp N1 w νc ⟨l,ids.length,ids.length⟩:=by
  refine ⟨fun j o ho=>?_,fun i j b g1 g2=>?_,fun i b g=>?_,fun i hi=>?_,fun b g=>s.hp.all b ((hN b).1 (.inl g)),fun i b g g0=>?_,fun p hp=>⟨.inl (s.hp.lw p hp).1,(s.hp.lw p hp).2⟩⟩
  ·obtain ⟨i,o0,_,h2,h3,rfl⟩:=hl1 j o ho
   rw[Nat.sub_zero] at h2;exact Ro.map m0 hS0 (hνc i j h2) (fun _ _=>rfl) (s.hp.objs i o0 h3)
  ·obtain ⟨i1,e1,g1⟩:=hcow i b g1
   obtain ⟨i2,e2,g2⟩:=hcow j b g2;have:=s.hp.inj _ _ b g1 g2;subst this;have k1:=yx hnd e1;have k2:=yx hnd e2;rw[k1] at k2;injection k2
  ·obtain ⟨i1,e1,g1⟩:=hcow i b g
   exact s.hp.bnd _ b g1
  ·have:ids[i]? =none:=QaM hi
   simp[νc,this]
  ·obtain ⟨i1,e1,g1⟩:=hcow i b g
   rcases g0 with g0|⟨i2,hi2,g0⟩
   ·exact s.hp.dis _ b g1 g0
   ·have:=s.hp.inj _ _ b g1 g0
    subst this;exact hi2 (Qas e1)
 have hargs':Rv w (nN N1 νc) νc as vs:=by
  rcases has with rfl|rfl
  ·exact hargs.map m0 hS0
  ·exact hargs.mapA m0 fun i j e=>hνc i j (gx e)
 refine (hcon N1 w νc vs hp1 hargs').mono fun e w' ⟨v,ν',he',hhp,hr,hkp,⟨hkeep,hroot⟩,hnew,hlo,hlo2⟩=>?_
 let ν2:Nat→Value:=fun i=>match ly ids i with
  |some j=>ν' j
  |none=>if i<h.nx then ν i else if i - h.nx<ids.length then undef else ν' (i - h.nx)
 have hin:∀i j,ids[j]? =some i→ν2 i=ν' j:=fun i j e=>by simp[ν2,yx hnd e]
 have hout:∀i,i ∉ ids→i<h.nx→ν2 i=ν i:=fun i e q=>by simp[ν2,wC e,q]
 have hbig:∀i,h.nx≤i→ν2 i=if i - h.nx<ids.length then undef else ν' (i - h.nx):=fun i q=>by
  have:i ∉ ids:=fun g=>by have:=hlt i g;omega
  have q':¬i<h.nx:=by omega
  simp[ν2,wC this,q']
 have hcase:∀i b,Ow (ν2 i) b→(∃j,iQ ids h.nx j=some i∧Ow (ν' j) b)∨(i ∉ ids∧i<h.nx∧Ow (ν i) b):=by
  intro i b g;by_cases hi:i∈ids
  ·obtain ⟨j,hj⟩:=lz (n:=0) hi
   have hj:=gx hj;rw[hin i j hj] at g;exact .inl ⟨j,by simp[iQ,hj],g⟩
  ·by_cases q:i<h.nx
   ·rw[hout i hi q] at g
    exact .inr ⟨hi,q,g⟩
   ·rw[hbig i (by omega)] at g
    by_cases q2:i - h.nx<ids.length
    ·simp[q2] at g
    ·simp only[q2,if_false] at g
     refine .inl ⟨i - h.nx,?_,g⟩;have:ids[i - h.nx]? =none:=QaM (by omega);simp only[iQ,this,Qab];omega
 have hS:∀i,ν i≠undef→Same (ν i) (ν2 i):=by
  intro i hu;by_cases hi:i∈ids
  ·obtain ⟨j,hj⟩:=lz (n:=0) hi
   have hj:=gx hj;rw[hin i j hj];have e:=hνc i j hj;have hu':νc j≠undef:=by rw[e];exact hu
   by_cases hsl:∃A k c,ac (νc j)= .slice A k c
   ·obtain ⟨A,k,c,hs⟩:=hsl
    exact .inr ⟨A,k,c,by rw[←e];exact hs,by rw[hroot j hu',hs]⟩
   ·exact .inl (by rw[hkeep j hu' (fun A k c g=>hsl ⟨A,k,c,g⟩),e])
  ·have q:i<h.nx:=by
    rcases Qaq i h.nx with q|q
    ·exact q
    ·exact absurd (s.hp.dom i q) hu
   exact .inl (hout i hi q)
 have hSk:∀i j,jK [] i=some j→ν i≠undef→Same (ν i) (ν2 j):=fun i j e hu=>by
  obtain ⟨rfl,_⟩:=nb e;exact hS _ hu
 have hfe:∀i j,iQ ids h.nx i=some j→ν2 j=ν' i:=fun i j e=>by
  rcases CB e with e|⟨g,e⟩
  ·exact hin _ _ e
  ·rw[hbig _ (by omega)]
   have:¬(j - h.nx<ids.length):=by omega
   simp only[this,if_false]
   congr 1
   omega
 have hfw:∀i j,iQ ids h.nx i=some j→ν' i≠undef→Same (ν' i) (ν2 j):=fun i j e _=> .inl (hfe i j e)
 have hNsub:∀b,nN N0 ν2 b→nN N1 ν' b:=by
  rintro b (g|⟨i,g⟩)
  ·exact .inl (.inl g)
  ·rcases hcase i b g with ⟨j,_,g⟩|⟨g1,_,g⟩
   ·exact .inr ⟨j,g⟩
   ·exact .inl (.inr ⟨i,g1,g⟩)
 have m1:Mv w' (nN N1 ν') w' (nN N0 ν2):=⟨Qag _,fun b _ g=>⟨fun g'=>g (hNsub b g'),rfl⟩⟩
 have hfresh:∀i b,i ∉ ids→Ow (ν i) b→w'.heap[b]? =w.heap[b]? :=fun i b hi g=>hkp.blk b (s.hp.bnd i b g) (fun ⟨j,g'⟩=>by
  obtain ⟨i',e,g'⟩:=hcow j b g';have:=s.hp.inj _ _ b g g';subst this;exact hi (Qas e))
 refine ⟨v,ν2,he',?_,by have:=hr.map m1 hfw;simpa only[aG] using this⟩;refine s.turn (fun b=>∃j,Ow (νc j) b) (fun b ⟨j,g⟩=>by obtain ⟨i,_,g⟩:=hcow j b g;exact ⟨i,g⟩) hkp (fun m=>?_) (fun m=>?_) ?_ ?_ ?_ rfl rfl ⟨fun i h1 h2=>?_,fun hf i h1=>?_⟩ rfl (by simp only[d9];omega)
 ·have hsk:∀k,Rv w' (nN N0 ν2) ν2 [AV.map (jK []) (σ k)] [a.tmps.getD k undef]:=fun k=>by
   have:=(s.slots k).map m hSk;simpa only[aG] using this
  exact hsk
 ·intro id o' ho
  rcases ww hnd hlt ho with ⟨j,o1,h1,h2,rfl⟩|ho
  ·exact Ro.map m1 hfw (hfe j id h2) (fun _ _=>rfl) (hhp.objs j o1 h1)
  ·rw[E5] at ho
   cases hk:ids.any (Qaa id) with
   |true=>rw[hk] at ho;cases ho
   |false=>
    rw[hk] at ho;have hid:id ∉ ids:=fun g=>by rw[anyN.2 g] at hk;cases hk
    simp only[cond_false] at ho
    cases hq:look h.objs id with
    |none=>rw[hq] at ho;cases ho
    |some o''=>
     rw[hq] at ho;simp only[QaB,Qab] at ho;subst ho;have hro:=s.hp.objs id o'' hq
     have q:id<h.nx:=by
       rcases Qaq id h.nx with q|q
       ·exact q
       ·exact absurd (s.hp.dom id q) hro.ne
     exact Ro.map m hSk (hout id hid q) (fun b g=>hfresh id b hid g) hro
 ·intro i j b g1 g2
  rcases hcase i b g1 with ⟨j1,e1,g1⟩|⟨e1,q1,g1⟩<;>rcases hcase j b g2 with ⟨j2,e2,g2⟩|⟨e2,q2,g2⟩
  ·have:=hhp.inj _ _ b g1 g2
   subst this;rw[e1] at e2;injection e2
  ·exact absurd (.inr ⟨j,e2,g2⟩) (hhp.dis _ b g1)
  ·exact absurd (.inr ⟨i,e1,g1⟩) (hhp.dis _ b g2)
  ·exact s.hp.inj _ _ b g1 g2
 ·intro i b g
  rcases hcase i b g with ⟨j1,e1,g1⟩|⟨e1,q1,g1⟩
  ·refine ⟨hhp.bnd _ b g1,?_⟩
   rcases hnew _ b g1 with ⟨j,g⟩|g
   ·obtain ⟨i',_,g⟩:=hcow j b g
    exact .inl ⟨i',g⟩
   ·exact .inr g
  ·exact ⟨Qai (s.hp.bnd i b g1) hkp.size,.inl ⟨i,g1⟩⟩
 ·intro i hi
  simp only[d9] at hi;rw[hbig i (by omega)];by_cases q2:i - h.nx<ids.length
  ·simp[q2]
  ·simp only[q2,if_false]
   exact hhp.dom _ (by omega)
 ·have e:=s.keep.1 i h1 h2
  rw[(hS i (by rw[e];exact h1)).nonslice (by rw[e];exact h2),e]
 ·have e:=s.keep.2 hf i h1
  by_cases hu:ν i=undef
  ·have hi:i<h.nx:=by
    rcases Qaq i h.nx with q|q
    ·exact q
    ·exact absurd (s.low.2 i (Qat s.low.1 q)) h1
   have hi2:i ∉ ids:=fun g=>hne i g hu;rw[hout i hi2 hi];exact e
  ·rw[(hS i hu).rootEq,e]
theorem kJ (s:St q N0 w0 Nf n ν0 σ h a w ν) {o:Oper} {f:FuncId} {args:List AV} {vs:List Value} (hargs:Rv w (nN N0 ν) ν args vs) {K:AV→Heap→Rn→Prop} {ids:List Nat} {r:AV} {h' hc:Heap} {as:List AV}
 (hnd:gu ids=true) (hsub:j4 ids h=some hc) (has:as=aG (ly ids) args∨as=bb (ly ids) args) (hv:(am P q.fx).fix f as hc r h') (hk:K (AV.map (iQ ids h.nx) r) (d9 ids h h') (.tsub [])) (hrun:uI P f→(execOp a.eval o).run P w= .ok (.enter f vs.toArray) w)
 (hn:∀r h' m a' w' ν',K r h' m→St q N0 w0 Nf n ν0 ((σ.ren m).putO n o.dst r) h' a' w' ν'→next a' w'):o.wpIn (G ro) 0 P a w next Q:=by
 obtain ⟨he,hcon⟩:=hv;refine gN (hrun he) ((ue .returned s hargs hnd hsub has hcon).mono fun e w' ⟨v,ν2,he',s2,hr⟩=>⟨v,he',hn _ _ (.tsub []) _ w' ν2 hk ?_⟩);exact s2.seen (Kp.refl _ _) o.dst hr
theorem EW {a b i j:Nat} (h:yi a b i=some j):(i=a∧j=b)∨(i≠a∧i≠b∧j=i):=by
 unfold yi at h;by_cases e:i=a
 ·subst e;rw[ga] at h;simp only[cond_true,Qab] at h;exact .inl ⟨rfl,h.symm⟩
 ·rw[eQ e] at h
  by_cases e2:i=b
  ·subst e2;rw[ga] at h;cases h
  ·rw[eQ e2] at h;simp only[cond_false,Qab] at h;exact .inr ⟨e,e2,h.symm⟩
theorem tP {a b:Nat} (hab:a≠b):∀{l:List (Nat×AO)} {j:Nat} {o:AO},look (Jf a b l) j=some o→∃i o',look l i=some o'∧yi a b i=some j∧o=o'.map' (yi a b)
 |[],j,o,h=>by simp[Jf,look] at h
 |(k,x)::r,j,o,h=>by
  have next:∀{i o'},yi a b i=some j→yi a b k≠some j→look r i=some o'→look ((k,x)::r) i=some o':=fun {i o'} h1 h2 h3=>by
    have:i≠k:=fun e=>h2 (e▸h1);simp only[look,eQ this,cond_false,h3]
  simp only[Jf] at h
  cases e:yi a b k with
  |none=>
   rw[e] at h;obtain ⟨i,o',h1,h2,h3⟩:=tP hab h
   exact ⟨i,o',next h2 (by rw[e];simp) h1,h2,h3⟩
  |some m=>
   rw[e] at h;simp only[look] at h;by_cases e2:j=m
   ·subst e2
    rw[ga] at h;simp only[cond_true,Qab] at h;exact ⟨k,x,by simp only[look,ga,cond_true],e,h.symm⟩
   ·rw[eQ e2] at h
    obtain ⟨i,o',h1,h2,h3⟩:=tP hab h;exact ⟨i,o',next h2 (by rw[e];simp only[ne_eq,Qab];exact fun g=>e2 g.symm) h1,h2,h3⟩
theorem St.move (s:St q N0 w0 Nf n ν0 σ h a w ν) {x y:Nat} (hx:h.lo≤x) (hy:h.lo≤y) (hxy:x≠y) (hn:y<h.nx):
 ∃ν',St q N0 w0 Nf n ν0 (fun k=>AV.map (yi x y) (σ k)) ⟨Jf x y h.objs,h.nx,h.lo⟩ a w ν':=by
 let ν':Nat→Value:=fun i=>if i=y then ν x else if i=x then undef else ν i
 have h1:ν' y=ν x:=by simp[ν']
 have h2:ν' x=undef:=by simp[ν',hxy]
 have h3:∀i,i≠x→i≠y→ν' i=ν i:=fun i e1 e2=>by simp[ν',e1,e2]
 have hf:∀i j,yi x y i=some j→ν' j=ν i:=fun i j e=>by
  rcases EW e with ⟨rfl,rfl⟩|⟨e1,e2,rfl⟩
  ·exact h1
  ·exact h3 _ e1 e2
 have hS:∀i j,yi x y i=some j→ν i≠undef→Same (ν i) (ν' j):=fun i j e _=> .inl (hf i j e)
 have hb:∀i b,Ow (ν' i) b→∃j,Ow (ν j) b∧yi x y j=some i:=fun i b g=>by
  by_cases e:i=y
  ·subst e;rw[h1] at g;exact ⟨x,g,by simp only[yi,ga,cond_true]⟩
  ·by_cases e2:i=x
   ·subst e2;rw[h2] at g;exact absurd g lm
   ·rw[h3 i e2 e] at g;exact ⟨i,g,by simp only[yi,eQ e2,eQ e,cond_false]⟩
 refine ⟨ν',s.turn (fun _=>False) (fun _ g=>g.elim) (Kp.refl _ _) (fun m k=>?_) (fun m j o ho=>?_) (fun i j b g1 g2=>?_) (fun i b g=>?_) (fun i hi=>?_) rfl rfl ⟨fun i g1 g2=>?_,fun hfx i g1=>?_⟩ rfl (Qag _)⟩
 ·have:=(s.slots k).map m hS
  simpa only[aG] using this
 ·obtain ⟨i,o',e1,e2,rfl⟩:=tP hxy ho
  exact Ro.map m hS (hf i j e2) (fun _ _=>rfl) (s.hp.objs i o' e1)
 ·obtain ⟨i',g1,e1⟩:=hb i b g1
  obtain ⟨j',g2,e2⟩:=hb j b g2;have:=s.hp.inj _ _ b g1 g2;subst this;rw[e1] at e2;injection e2
 ·obtain ⟨j,g,_⟩:=hb i b g
  exact ⟨s.hp.bnd j b g,.inl ⟨j,g⟩⟩
 ·have hi:h.nx≤i:=hi
  by_cases e:i=x
  ·rw[e];exact h2
  ·rw[h3 i e (by omega)];exact s.hp.dom i hi
 ·have:i<h.lo:=by
   rcases Qaq i h.lo with g|g
   ·exact g
   ·exact absurd (s.low.2 i g) g1
  rw[h3 i (by omega) (by omega)];exact s.keep.1 i g1 g2
 ·have:i<h.lo:=by
   rcases Qaq i h.lo with g|g
   ·exact g
   ·exact absurd (s.low.2 i g) g1
  rw[h3 i (by omega) (by omega)];exact s.keep.2 hfx i g1
mutual
theorem lq (f:Nat→Option Nat):∀a:AV,AV.map f (AV.map (jK []) a)=AV.map f a
 | .agg cs=>by simp only[AV.map,jH f cs]
 | .tup cs=>by simp only[AV.map,jH f cs]
 | .fn g cs=>by simp only[AV.map,jH f cs]
 | .bfn g cs=>by simp only[AV.map,jH f cs]
 | .iface t x=>by simp only[AV.map,lq f x]
 | .ptr id off=>rfl
 | .rptr id i sz off=>rfl
 | .own id=>rfl
 | .mapr id=>rfl
 | .nest _ _ _ _ _=>rfl
 | .any=>rfl
 | .d _=>rfl
 | .nils=>rfl
 | .val _=>rfl
 | .at_ _=>rfl
theorem jH (f:Nat→Option Nat):∀as:List AV,aG f (aG (jK []) as)=aG f as
 |[]=>rfl
 |a::as=>by simp only[aG,lq f a,jH f as]
end
theorem Je {σ:Env} {x y n:Nat} {d:Option Nat} {r:AV}:(fun k=>AV.map (yi x y) (((σ.ren (.tsub [])).putO n d r) k))=(σ.ren (.mv x y)).putO n d (AV.map (yi x y) r):=by
 funext k
 cases d with
 |none=>exact lq _ _
 |some d=>
  simp only[Env.putO]
  cases Qad (d+1) n with
  |false=>exact lq _ _
  |true=>
   simp only[cond_true,Env.put]
   cases Qaa k d with
   |true=>rfl
   |false=>exact lq _ _
theorem kI (s:St q N0 w0 Nf n ν0 σ h a w ν) {o:Oper} {f:FuncId} {args:List AV} {vs:List Value} (hargs:Rv w (nN N0 ν) ν args vs) {K:AV→Heap→Rn→Prop} {ids:List Nat} {p:Option (Nat×Nat)} {r:AV} {h' hc:Heap} {as:List AV}
 (hnd:gu ids=true) (hsub:j4 ids h=some hc) (has:as=aG (ly ids) args∨as=bb (ly ids) args) (hv:(am P q.fx).fix f as hc r h') (hk:nh p h.lo (AV.map (iQ ids h.nx) r) (d9 ids h h') K) (hrun:uI P f→(execOp a.eval o).run P w= .ok (.enter f vs.toArray) w)
 (hn:∀r h' m a' w' ν',K r h' m→St q N0 w0 Nf n ν0 ((σ.ren m).putO n o.dst r) h' a' w' ν'→next a' w'):o.wpIn (G ro) 0 P a w next Q:=by
 cases p with
 |none=>exact kJ s hargs hnd hsub has hv (forceH_iff.1 (show cq (d9 ids h h') (fun h1=>K (AV.map (iQ ids h.nx) r) h1 (.tsub [])) from hk)) hrun hn
 |some p=>
  obtain ⟨x,y⟩:=p;unfold nh at hk;obtain ⟨hb,hk⟩:=hk;have hk:=forceH_iff.1 hk;simp only[Qac,QaH] at hb;refine kJ s hargs hnd hsub has hv (K:=fun r1 h1 m1=>r1=AV.map (iQ ids h.nx) r∧h1=d9 ids h h'∧m1= .tsub []) ⟨rfl,rfl,rfl⟩ hrun ?_;rintro _ _ _ a' w' ν' ⟨rfl,rfl,rfl⟩ s';obtain ⟨ν2,s2⟩:=s'.move (x:=x) (y:=y) (Qah hb.1.1.1) (Qah hb.1.1.2) (fun e=>by rw[e,ga] at hb;cases hb.1.2) (Qah hb.2);rw[Je] at s2;exact hn _ _ _ _ _ _ hk s2
theorem ES (a b:List NT):nl (a++b)=nl a+nl b:=by
 induction a with
 |nil=>simp[nl]
 |cons f a ih=>cases f<;>simp[nl,ih]<;>omega
theorem Tr.at {w:World} {t sz:Nat} {fs':List NT} {rn:List (List D)}:∀{fs:List NT} {ds:List D} {cs βs:List Value} {bs:List Nat} {p:Nat},Tr w fs ds cs βs bs→fs[p]? =some (.list t sz fs')→ds[p]? =some (.list rn)→
 ∃β1 β β2 b1 bm b2,βs=β1++β::β2∧β1.length=nl (fs.take p)∧bs=b1++(bm++b2)∧Tb w t sz fs' rn β bm∧
  ∀(w':World) (rn':List (List D)) (β':Value) (bm':List Nat),(∀b∈b1++b2,w'.heap[b]? =w.heap[b]?)→Tb w' t sz fs' rn' β' bm'→ac β'=ac β→Tr w' fs (ds.set p (.list rn')) cs (β1++β'::β2) (b1++(bm'++b2))
 |[],ds,cs,βs,bs,p,h,hf,hd=>by simp at hf
 |f::fs,ds,cs,βs,bs,0,h,hf,hd=>by
  simp only[Qal,Qab] at hf;subst hf
  cases ds with
  |nil=>simp at hd
  |cons d ds=>
   simp only[Qal,Qab] at hd;subst hd;obtain ⟨v,us,β,γs,b1,b2,rfl,rfl,rfl,g1,g2,g3,g4⟩:=qs h;refine ⟨[],β,γs,[],b1,b2,rfl,rfl,rfl,g1,fun w' rn' β' bm' hb hT hr=>?_⟩;simp only[QaQ,QaG]
   exact jY hT (hr.trans g2) (g4.keep fun b g=>hb b (by simpa using g))
 |f::fs,ds,cs,βs,bs,p+1,h,hf,hd=>by
  simp only[Qak] at hf
  cases ds with
  |nil=>simp at hd
  |cons d ds=>
   simp only[Qak] at hd
   cases h with
   |leaf _ v h1 h2 h3=>
    obtain ⟨β1,β,β2,b1,bm,b2,rfl,g2,rfl,g4,g5⟩:=Tr.at h3 hf hd;refine ⟨β1,β,β2,b1,bm,b2,rfl,by simp[nl,g2],rfl,g4,fun w' rn' β' bm' hb hT hr=>?_⟩;simp only[Qap]
    exact .leaf _ v h1 h2 (g5 w' rn' β' bm' hb hT hr)
   |list t0 sz0 fs0 rows0 A cap cells βs' bs' h1 h2 h3 h4 h5 h6 h7=>
    obtain ⟨β1,β,β2,b1,bm,b2,rfl,g2,rfl,g4,g5⟩:=Tr.at h7 hf hd;refine ⟨_::β1,β,β2,(bG (.slice A rows0.length cap)).toList++bs'++b1,bm,b2,rfl,by simp[nl,g2],by simp only[Qam],g4,fun w' rn' β' bm' hb hT hr=>?_⟩;simp only[Qap,QaD];rw[Qam];simp only[Qar] at hb;refine .list t0 sz0 fs0 rows0 A cap cells βs' bs' (h1.keep fun b g=>hb b (.inl (.inl (.inr g)))) h2 h3 h4 h5 (ez h6 fun b g=>hb b (.inl (.inl (.inl (by simp[g]))))) ?_
    exact g5 w' rn' β' bm' (fun b g=>hb b (by rcases List.mem_append.1 g with g|g;exact .inl (.inr g);exact .inr g)) hT hr
   |dead t0 sz0 fs0 A m cap h1 h2 h3=>
    obtain ⟨β1,β,β2,b1,bm,b2,rfl,g2,rfl,g4,g5⟩:=Tr.at h3 hf hd;refine ⟨_::β1,β,β2,b1,bm,b2,rfl,by simp[nl,g2],rfl,g4,fun w' rn' β' bm' hb hT hr=>?_⟩;simp only[Qap,QaD];exact .dead t0 sz0 fs0 A m cap h1 h2 (g5 w' rn' β' bm' hb hT hr)
theorem Tr.kill {w:World} {t sz:Nat} {fs':List NT} {rn:List (List D)}:∀{fs:List NT} {ds:List D} {cs βs:List Value} {bs:List Nat} {p:Nat},Tr w fs ds cs βs bs→fs[p]? =some (.list t sz fs')→ds[p]? =some (.list rn)→
 ∃β1 β β2 b1 bm b2 A m c,βs=β1++β::β2∧β1.length=nl (fs.take p)∧bs=b1++(bm++b2)∧Tb w t sz fs' rn β bm∧ac β= .slice A m c∧
  Tr w fs (ds.set p (.raw (.slice A m c))) cs (β1++ .agg #[.slice A m c]::β2) (b1++b2)
 |[],ds,cs,βs,bs,p,h,hf,hd=>by simp at hf
 |f::fs,ds,cs,βs,bs,0,h,hf,hd=>by
  simp only[Qal,Qab] at hf;subst hf
  cases ds with
  |nil=>simp at hd
  |cons d ds=>
   simp only[Qal,Qab] at hd;subst hd;have hk:=h.kindsL;obtain ⟨v,us,β,γs,b1,b2,rfl,rfl,rfl,g1,g2,⟨A,m,c,rfl⟩,g4⟩:=qs h;refine ⟨[],β,γs,[],b1,b2,A,m,c,rfl,rfl,rfl,g1,g2,?_⟩;simp only[QaQ,QaG]
   exact .dead t sz fs' A m c (hk _ _ _ (Qao ..)).1 (hk _ _ _ (Qao ..)).2 g4
 |f::fs,ds,cs,βs,bs,p+1,h,hf,hd=>by
  simp only[Qak] at hf
  cases ds with
  |nil=>simp at hd
  |cons d ds=>
   simp only[Qak] at hd
   cases h with
   |leaf _ v h1 h2 h3=>
    obtain ⟨β1,β,β2,b1,bm,b2,A,m,c,rfl,g2,rfl,g4,g5,g6⟩:=Tr.kill h3 hf hd;refine ⟨β1,β,β2,b1,bm,b2,A,m,c,rfl,by simp[nl,g2],rfl,g4,g5,?_⟩;simp only[Qap]
    exact .leaf _ v h1 h2 g6
   |list t0 sz0 fs0 rows0 A0 cap cells βs' bs' h1 h2 h3 h4 h5 h6 h7=>
    obtain ⟨β1,β,β2,b1,bm,b2,A,m,c,rfl,g2,rfl,g4,g5,g6⟩:=Tr.kill h7 hf hd;refine ⟨_::β1,β,β2,(bG (.slice A0 rows0.length cap)).toList++bs'++b1,bm,b2,A,m,c,rfl,by simp[nl,g2],by simp only[Qam],g4,g5,?_⟩;simp only[Qap,QaD];rw[Qam]
    exact .list t0 sz0 fs0 rows0 A0 cap cells βs' bs' h1 h2 h3 h4 h5 h6 g6
   |dead t0 sz0 fs0 A0 m0 cap h1 h2 h3=>
    obtain ⟨β1,β,β2,b1,bm,b2,A,m,c,rfl,g2,rfl,g4,g5,g6⟩:=Tr.kill h3 hf hd;refine ⟨_::β1,β,β2,b1,bm,b2,A,m,c,rfl,by simp[nl,g2],rfl,g4,g5,?_⟩;simp only[Qap,QaD];exact .dead t0 sz0 fs0 A0 m0 cap h1 h2 g6
theorem BZ {α:Type} (fs:List α):∀(n i off:Nat),i<n→off<fs.length→((List.replicate n fs).flatten)[i*fs.length+off]? =fs[off]?
 |0,_,_,h,_=>absurd h (Nat.not_lt_zero _)
 |n+1,0,off,_,h2=>by
  rw[QaA,Qaj,QaE,QaF,QaI h2]
 |n+1,i+1,off,h1,h2=>by
  rw[QaA,Qaj,Qay (by rw[Qaw];omega),←BZ fs n i off (by omega) h2]
  congr 1
  rw[Qaw];omega
theorem ot (fs:List NT):∀(n i off:Nat),i<n→off≤fs.length→nl (((List.replicate n fs).flatten).take (i*fs.length+off))=i*nl fs+nl (fs.take off)
 |0,_,_,h,_=>absurd h (Nat.not_lt_zero _)
 |n+1,0,off,_,h2=>by
  rw[QaA,Qaj,QaE,QaF,List.take_append_of_le_length h2,QaE,QaF]
 |n+1,i+1,off,h1,h2=>by
  have e:(i+1)*fs.length+off=fs.length+(i*fs.length+off):=by rw[Qaw];omega
  rw[QaA,Qaj,e,List.take_length_add_append,ES,ot fs n i off (by omega) h2,Qaw];omega
theorem yJ {sz:Nat}:∀{rows:List (List D)} {i off:Nat} {row:List D},(∀r∈rows,r.length=sz)→rows[i]? =some row→off<sz→rows.flatten[i*sz+off]? =row[off]?
 |[],i,off,row,_,h,_=>by simp at h
 |r::rows,0,off,row,hl,h,h2=>by
  simp only[Qal,Qab] at h;subst h;have:=hl r (Qao ..)
  rw[Qaj,QaE,QaF,QaI (by omega)]
 |r::rows,i+1,off,row,hl,h,h2=>by
  simp only[Qak] at h;have:=hl r (Qao ..);rw[Qaj,Qay (by rw[Qaw];omega),←yJ (fun x hx=>hl x (Qax _ hx)) h h2]
  congr 1
  rw[Qaw];omega
theorem uk {sz:Nat} {x:D}:∀{rows:List (List D)} {i off:Nat} {row:List D},(∀r∈rows,r.length=sz)→rows[i]? =some row→off<sz→(rows.set i (row.set off x)).flatten=rows.flatten.set (i*sz+off) x
 |[],i,off,row,_,h,_=>by simp at h
 |r::rows,0,off,row,hl,h,h2=>by
  simp only[Qal,Qab] at h;subst h;have:=hl r (Qao ..)
  rw[QaG,Qaj,Qaj,QaE,QaF,List.set_append_left _ _ (by omega)]
 |r::rows,i+1,off,row,hl,h,h2=>by
  simp only[Qak] at h;have:=hl r (Qao ..);rw[Qap,Qaj,Qaj,uk (fun x hx=>hl x (Qax _ hx)) h h2,List.set_append_right _ _ (by rw[Qaw];omega)]
  congr 2
  rw[Qaw];omega
theorem Tb.at {w:World} {t sz t' sz':Nat} {fs fs':List NT} {rows rn:List (List D)} {γ:Value} {bs:List Nat} {i off:Nat} {row:List D} (h:Tb w t sz fs rows γ bs) (hi:rows[i]? =some row) (ho:row[off]? =some (.list rn)) (hf:fs[off]? =some (.list t' sz' fs')):
 ∃xs β b1 bm b2,γ= .tuple xs∧xs[1+(i*nl fs+nl (fs.take off))]? =some β∧bs=b1++(bm++b2)∧Tb w t' sz' fs' rn β bm∧
  ∀(w':World) (rn':List (List D)) (β':Value) (bm':List Nat),(∀b∈b1++b2,w'.heap[b]? =w.heap[b]?)→Tb w' t' sz' fs' rn' β' bm'→ac β'=ac β→
   ∃γ',ac γ'=ac γ∧Tb w' t sz fs (rows.set i (row.set off (.list rn'))) γ' (b1++(bm'++b2)):=by
 obtain ⟨A,cap,cells,βs,bs',rfl,rfl,h1,h2,h3,h4,h5,h6⟩:=h;have hin:i<rows.length:=(List.getElem?_eq_some_iff.1 hi).1;have hoff:off<fs.length:=(List.getElem?_eq_some_iff.1 hf).1;have hoff':off<sz:=by omega
 have k1:((List.replicate rows.length fs).flatten)[i*sz+off]? =some (.list t' sz' fs'):=by rw[←h3,BZ fs _ _ _ hin hoff,hf]
 have k2:rows.flatten[i*sz+off]? =some (.list rn):=by rw[yJ h2 hi hoff',ho]
 obtain ⟨β1,β,β2,b1,bm,b2,rfl,g2,rfl,g4,g5⟩:=h1.at k1 k2;have g2':β1.length=i*nl fs+nl (fs.take off):=by rw[g2,←h3,ot fs _ _ _ hin (Nat.le_of_lt hoff)]
 refine ⟨_,β,(bG (.slice A rows.length cap)).toList++b1,bm,b2,rfl,?_,by simp only[Qam],g4,fun w' rn' β' bm' hb hT hr=>?_⟩
 ·rw[List.getElem?_toArray,Nat.add_comm 1,Qak,Qay (by omega),g2']
  simp
 ·simp only[Qar] at hb
  have g6:=g5 w' rn' β' bm' (fun b g=>hb b (by rcases List.mem_append.1 g with g|g;exact .inl (.inr g);exact .inr g)) hT hr;refine ⟨.tuple (.slice A rows.length cap::(β1++β'::β2)).toArray,rfl,A,cap,cells,_,b1++(bm'++b2),by rw[Qav],by rw[Qav];simp only[Qam],?_,?_,h3,h4,by rw[Qav];exact h5,?_⟩
  ·rw[Qav,uk h2 hi hoff']
   exact g6
  ·intro r hr
   rcases List.mem_or_eq_of_mem_set hr with hr|rfl
   ·exact h2 r hr
   ·rw[Qav];exact h2 row (Qas hi)
  ·rw[Qav]
   exact ez h6 fun b g=>hb b (.inl (.inl (by simp[g])))
theorem H1 (as:List AV):True:=trivial
theorem tw {N N':Nat→Prop} {ν':Nat→Value} (m:Mv w N w N'):∀{args args':List AV} {vs:List Value} {id i off mm j:Nat},kh args=some ((id,i,off,mm,j),args')→Rv w N ν args vs→
 ∃xs β A n c,ν id= .tuple xs∧xs[1+(i*mm+j)]? =some β∧ac β= .slice A n c∧(ac (ν' 0)= .slice A n c→Rv w N' ν' args' vs)
 |[],_,_,_,_,_,_,_,h,_=>by simp[kh] at h
 |x::as,args',vs,id,i,off,mm,j,h,hr=>by
  have hnone:∀{bs:List AV} {us:List Value},Rv w N ν bs us→Rv w N' ν' (aG (fun _=>none) bs) us:=fun hr=>hr.map m (fun _ _ e _=>by cases e)
  have other:∀{x:AV} {p:Nat×Nat×Nat×Nat×Nat} {as':List AV},kh as=some (p,as')→p=(id,i,off,mm,j)→AV.map (fun _=>none) x::as'=args'→Rv w N ν (x::as) vs→
   ∃xs β A n c,ν id= .tuple xs∧xs[1+(i*mm+j)]? =some β∧ac β= .slice A n c∧(ac (ν' 0)= .slice A n c→Rv w N' ν' args' vs):=by
   rintro x p as' hq rfl rfl hr;obtain ⟨v,us,rfl,h1,h2⟩:=hr.cons_inv;obtain ⟨xs,β,A,n',c,g1,g2,g3,g4⟩:=tw m hq h2;refine ⟨xs,β,A,n',c,g1,g2,g3,fun g=>?_⟩;have:=hnone h1;simp only[aG] at this;exact this.cons (g4 g)
  cases x with
  |nest id' i' off' m' j'=>
   simp only[kh] at h
   cases hb:as.any w7 with
   |true=>rw[hb] at h;cases h
   |false=>
    rw[hb] at h;simp only[cond_false,Qab,Qau] at h;obtain ⟨⟨rfl,rfl,rfl,rfl,rfl⟩,rfl⟩:=h
    cases hr with
    |nest _ _ _ _ h1 h2 h3 hr=>exact ⟨_,_,_,_,_,h1,h2,h3,fun g=> .own g (hnone hr)⟩
  |_=>
   simp only[kh] at h;split at h
   ·rename_i p as' hq
    simp only[Qab,Qau] at h;exact other hq h.1 h.2 hr
   ·cases h
theorem tu (s:St q N0 w0 Nf n ν0 σ h a w ν) {o:Oper} {f:FuncId} {args:List AV} {vs:List Value} (hargs:Rv w (nN N0 ν) ν args vs) {K:AV→Heap→Rn→Prop}
 (hv:pA (am P q.fx) f args h K) (hrun:uI P f→(execOp a.eval o).run P w= .ok (.enter f vs.toArray) w)
 (hn:∀r h' m a' w' ν',K r h' m→St q N0 w0 Nf n ν0 ((σ.ren m).putO n o.dst r) h' a' w' ν'→next a' w'):o.wpIn (G ro) 0 P a w next Q:=by
 unfold pA at hv;split at hv
 case h_2=>exact hv.elim
 rename_i id i off mm j args' hna;split at hv
 case h_2=>exact hv.elim
 rename_i t sz fs rows hid;split at hv
 case h_2=>exact hv.elim
 rename_i t' sz' fs' hfs;obtain ⟨hmj,row,rn,hrow,hoff,r,h',hsc,⟨he,hcon⟩,rn',hrn',hk⟩:=hv;have hk:=forceH_iff.1 (forceDs_iff.1 hk);simp only[Qac] at hmj;have em:=Qae hmj.1;have ej:=Qae hmj.2;subst em ej;obtain ⟨bs,hT,hbs⟩:=s.hp.objs _ _ hid;obtain ⟨xs,β,b1,bm,b2,hγ,hβ,rfl,hTn,hrep⟩:=hT.at hrow hoff hfs
 have hdis:∀b∈bm,b ∉ b1∧b ∉ b2:=fun b hb=>by
  rw[QaC] at hbs;obtain ⟨_,hbs2,hbs3⟩:=hbs;rw[QaC] at hbs2;exact ⟨fun g=>hbs3 b g b (List.mem_append_left _ hb) rfl,fun g=>hbs2.2.2 b hb b g rfl⟩
 have hnbm:bm.Nodup:=(List.nodup_append.1 (List.nodup_append.1 hbs).2.1).1
 let νc:Nat→Value:=fun k=>if k=0 then β else undef
 let N1:Nat→Prop:=fun b=>nN N0 ν b∧b ∉ bm
 have hbmN:∀b∈bm,Ow (ν id) b:=fun b hb=>(hT.ow b).2 (by simp[hb])
 have hcow:∀k b,Ow (νc k) b↔k=0∧b∈bm:=fun k b=>by
  by_cases e:k=0
  ·simp only[νc,e,if_true,true_and];exact hTn.ow b
  ·simp[νc,e]
 have hN:∀b,nN N1 νc b↔nN N0 ν b:=fun b=>by
  constructor
  ·rintro (g|⟨k,g⟩)
   ·exact g.1
   ·exact .inr ⟨id,hbmN b ((hcow k b).1 g).2⟩
  ·intro g
   by_cases hb:b∈bm
   ·exact .inr ⟨0,(hcow 0 b).2 ⟨rfl,hb⟩⟩
   ·exact .inl ⟨g,hb⟩
 have m0:Mv w (nN N0 ν) w (nN N1 νc):=⟨Qag _,fun b _ g=>⟨fun g'=>g ((hN b).1 g'),rfl⟩⟩;obtain ⟨xs',β',A',n',c',q1,q2,q3,q4⟩:=tw (ν':=νc) m0 hna hargs;rw[hγ] at q1;injection q1 with q1
 subst q1;rw[hβ] at q2;injection q2 with q2
 subst q2
 have hp1:Hp N1 w νc ⟨[(0,.tree t' sz' fs' rn)],1,1⟩:=by
  refine ⟨fun k o ho=>?_,fun k1 k2 b g1 g2=>?_,fun k b g=>?_,fun k hk=>?_,fun b g=>s.hp.all b g.1,fun k b g g0=>?_,fun p hp=>⟨⟨.inl (s.hp.lw p hp).1,fun g=>s.hp.dis id _ (hbmN _ g) (s.hp.lw p hp).1⟩,(s.hp.lw p hp).2⟩⟩
  ·simp only[look] at ho
   by_cases e:k=0
   ·subst e
    simp only[Nat.beq_refl,cond_true,Qab] at ho;subst ho;exact ⟨bm,by simpa [νc] using hTn,hnbm⟩
   ·rw[eQ e] at ho;cases ho
  ·rw[((hcow k1 b).1 g1).1,((hcow k2 b).1 g2).1]
  ·exact hTn.bnd b ((hcow k b).1 g).2
  ·have:k≠0:=by simp only at hk;omega
   simp[νc,this]
  ·exact g0.2 ((hcow k b).1 g).2
 refine gN (hrun he) ?_;refine (hcon N1 w νc vs hp1 (q4 q3)).mono fun e w' ⟨v,ν',he',hhp,hr,hkp,⟨hkeep,hroot⟩,hnew,hlo,hlo2⟩=>⟨v,he',?_⟩;obtain ⟨bm',hT',hnd'⟩:=hhp.objs 0 _ hrn';have hold:∀b,b<w.heap.size→b ∉ bm→w'.heap[b]? =w.heap[b]? :=fun b hlt hb=>hkp.blk b hlt (fun ⟨k,g⟩=>hb ((hcow k b).1 g).2);have hrt:ac (ν' 0)=ac β:=hroot 0 (by show β≠undef;exact hTn.ne);have hbd:=hT.bnd;obtain ⟨γ',hγ1,hγ2⟩:=hrep w' rn' (ν' 0) bm' (fun b g=>hold b (hbd b (by rcases List.mem_append.1 g with g|g<;>simp[g])) (fun g'=>by rcases List.mem_append.1 g with g|g;exact (hdis b g').1 g;exact (hdis b g').2 g)) hT' hrt;have hk2:Kp (fun b=>Ow (ν id) b) w w':=⟨hkp.os,hkp.tape,hkp.output,hkp.size,fun b hlt hb=>hold b hlt (fun g=>hb (hbmN b g))⟩
 have hbm':∀b∈bm',b∈bm∨w.heap.size≤b:=fun b g=>by
  rcases hnew 0 b ((hT'.ow b).2 g) with ⟨k,g⟩|g
  ·exact .inl ((hcow k b).1 g).2
  ·exact .inr g
 have hid':id<h.nx:=by
  rcases Qaq id h.nx with q|q
  ·exact q
  ·exact absurd (s.hp.dom id q) hT.ne
 refine hn _ _ (.tsub []) _ w' _ hk (s.absorb (id:=id) (nx:=h.nx) (val:=γ') (ks:=[]) (fz:=[]) (o:= .tree t sz fs (rows.set i (row.set off (.list rn')))) (Qag _) hid' hk2 (fun b g=>?_) (by simp) (by simp) (.inr (.inr ?_)) (fun hu=>?_) (fun m=>⟨_,by rw[ee];exact hγ2,?_⟩) (fun k o' ho=>?_) o.dst (fun m=>lU hsc hr))
 ·have g:=(hγ2.ow b).1 g
  refine ⟨hγ2.bnd b g,?_⟩;simp only[Qar] at g;rcases g with g|g|g
  ·exact .inl ((hT.ow b).2 (by simp[g]))
  ·rcases hbm' b g with g|g
   ·exact .inl (hbmN b g)
   ·exact .inr (.inr g)
  ·exact .inl ((hT.ow b).2 (by simp[g]))
 ·obtain ⟨A,c,e⟩:=hT.root
  exact .inr ⟨A,_,c,e,by rw[hγ1,e]⟩
 ·obtain ⟨A,c,e⟩:=hT.root
  refine ⟨?_,fun hf=>by rw[hγ1];exact s.keep.2 hf id hu⟩;by_cases hsl:∃A k c,ac (ν0 id)= .slice A k c
  ·exact hsl
  ·have:=s.keep.1 id hu (fun A k c g=>hsl ⟨A,k,c,g⟩)
   rw[this] at e;exact ⟨_,_,_,e⟩
 ·rw[QaC] at hbs ⊢
  obtain ⟨n1,n2,n3⟩:=hbs;rw[QaC] at n2;refine ⟨n1,List.nodup_append.2 ⟨hnd',n2.2.1,fun b hb c hc e=>?_⟩,fun b hb c hc e=>?_⟩
  ·subst e
   rcases hbm' b hb with g|g
   ·exact (hdis b g).2 hc
   ·have:=hbd b (by simp[hc]);omega
  ·subst e
   rcases List.mem_append.1 hc with hc|hc
   ·rcases hbm' b hc with g|g
    ·exact (hdis b g).1 hb
    ·have:=hbd b (by simp[hb]);omega
   ·exact n3 b hb b (by simp[hc]) rfl
 ·simp only[gw,lY] at ho
  by_cases e:k=id
  ·subst e
   rw[if_pos rfl] at ho;simp only[List.any_nil,cond_false,hid,QaB,Qab] at ho;exact .inl ⟨rfl,ho.symm⟩
  ·rw[if_neg e] at ho
   simp only[List.any_nil,cond_false] at ho
   cases hq:look h.objs k with
   |none=>rw[hq] at ho;cases ho
   |some o''=>
    rw[hq] at ho;simp only[QaB,Qab] at ho;exact .inr ⟨e,by simp,o'',rfl,ho.symm⟩
theorem Bj (hp:Hp N0 w ν h) {ν1:Nat→Value} {x y:AV} {v:Value} (hr:Rv w (nN N0 ν) ν [x] [v]) (hc:DR h.objs x y):Rv w N0 ν1 [y] [v]:=by
 unfold DR at hc;split at hc
 ·rename_i id i off m j
  obtain ⟨rn,rfl,hc⟩:=hc;unfold Hx at hc;split at hc
  ·rename_i t sz fs rows hid
   obtain ⟨hb,row,hrow,hoff⟩:=hc;simp only[Qac] at hb;obtain ⟨⟨b1,b2⟩,b3⟩:=hb;have em:=Qae b1;have ej:=Qae b2;subst em ej;split at b3
   ·rename_i t' sz' fs' hf
    obtain ⟨bs,hT,_⟩:=hp.objs _ _ hid;obtain ⟨xs,β,q1,bm,q2,hγ,hβ,rfl,hTn,_⟩:=hT.at hrow hoff hf
    cases hr with
    |nest _ _ _ _ g1 g2 g3 _=>
     rw[hγ] at g1;injection g1 with g1
     subst g1;rw[hβ] at g2;injection g2 with g2
     subst g2;have:=hTn.rd (N:=N0) (fun b hb=>hp.dis id b ((hT.ow b).2 (by simp[hb])));rw[g3] at this;exact .d this .nil
   ·cases b3
  ·exact hc.elim
 ·subst hc
  have:=oV hp (ν0:=ν1) hr;simp only[aN] at this;exact this
theorem wU (hp:Hp N0 w ν h) {ν1:Nat→Value}:∀{xs ys:List AV} {vs:List Value},Rv w (nN N0 ν) ν xs vs→CL h.objs xs ys→Rv w N0 ν1 ys vs
 |[],ys,vs,hr,hc=>by cases hr;rw[show ys=[] from hc];exact .nil
 |x::xs,ys,vs,hr,hc=>by
  obtain ⟨v,us,rfl,h1,h2⟩:=hr.cons_inv;obtain ⟨d,ds,rfl,h3,h4⟩:=hc;exact (Bj hp h1 h3).cons (wU hp h2 h4)
theorem Iu (hp:Hp N0 w ν h) {ν1:Nat→Value} {x y:AV} {v:Value} (hr:Rv w (nN N0 ν) ν [x] [v]) (hc:JE h.objs x y):Rv w N0 ν1 [y] [v]:=by
 unfold JE at hc;split at hc
 ·obtain ⟨ds,rfl,hc⟩:=hc
  obtain ⟨us,rfl,h1⟩:=je hr;exact .agg us (wU hp h1 hc) .nil
 ·exact Bj hp hr hc
theorem Bo (hp:Hp N0 w ν h) {ν1:Nat→Value}:∀{xs ys:List AV} {vs:List Value},Rv w (nN N0 ν) ν xs vs→Ho h.objs xs ys→Rv w N0 ν1 ys vs
 |[],ys,vs,hr,hc=>by cases hr;rw[show ys=[] from hc];exact .nil
 |x::xs,ys,vs,hr,hc=>by
  obtain ⟨v,us,rfl,h1,h2⟩:=hr.cons_inv;obtain ⟨d,ds,rfl,h3,h4⟩:=hc;exact (Iu hp h1 h3).cons (Bo hp h2 h4)
theorem ii (s:St q N0 w0 Nf n ν0 σ h a w ν) {o:Oper} {f:FuncId} {args:List AV} {vs:List Value} (hargs:Rv w (nN N0 ν) ν args vs) {K:AV→Heap→Rn→Prop}
 (hv:kU (am P q.fx) f args h K) (hrun:uI P f→(execOp a.eval o).run P w= .ok (.enter f vs.toArray) w)
 (hn:∀r h' m a' w' ν',K r h' m→St q N0 w0 Nf n ν0 ((σ.ren m).putO n o.dst r) h' a' w' ν'→next a' w'):o.wpIn (G ro) 0 P a w next Q:=by
 rcases hv with ⟨r,⟨he,hc⟩,hk⟩|⟨r,h',hc,hk⟩|⟨r,h',hc,hk⟩|⟨r,hs,hc,hk⟩|⟨r,hc,hk⟩|⟨r,h',hlt,hc,hk⟩|⟨r,h',hc,hsh,hk⟩|⟨ids,p,r,h',hnd,hc,hk⟩|hv|hv
 rotate_left
 ·exact lE s s (fun _ g=>g) (fun j b g=>⟨j,g⟩) (fun _ _=>rfl) rfl rfl hargs hc.1 hc.2 hk hrun hn
 ·generalize hq:pubs (aF args) h.objs=q at hc
  obtain ⟨l,m⟩:=q;obtain ⟨ν1,s1,h1,h2,h3⟩:=uF (ν:=ν) (x:=h.nx) (y:=h.lo) _ s hq;refine lE s s1 ?_ (fun j b g=>⟨j,by rcases h1 j with e|e;exact e▸g;exact absurd g (e b)⟩) h2 rfl rfl (h3 _ _ hargs) hc.1 hc.2 hk hrun hn;rintro b (g|⟨j,g⟩)
  ·exact .inl g
  ·rcases h1 j with e|e
   ·exact .inr ⟨j,by rw[←e];exact g⟩
   ·exact absurd g (e b)
 ·exact tT s hargs hs hc hk hrun hn
 ·exact tW s hargs hc hk hrun hn
 ·exact rA s hargs hlt hc (forceH_iff.1 hk) hrun hn
 ·exact rY s hargs hc hsh (forceH_iff.1 hk) hrun hn
 ·split at hc
  ·rename_i hc' hsub
   exact kI s hargs hnd hsub (.inl rfl) hc hk hrun hn
  ·exact hc.elim
 ·exact tu s hargs hv hrun hn
 ·rcases hv with ⟨ids,p,r,h',hnd,hc,hk⟩|⟨as,r,hs,has,⟨he,hc⟩,hk⟩
  ·split at hc
   ·rename_i hc' hsub
    exact kI s hargs hnd hsub (.inr rfl) hc hk hrun hn
   ·exact hc.elim
  ·refine gN (hrun he) ?_
   exact (hc N0 w vs s.hp.n0 s.hp.lw (Bo s.hp hargs has)).mono fun e w' ⟨v,he',hkp,hr⟩=>⟨v,he',hn r h (.sub []) _ w' ν hk (s.seen hkp o.dst (BK hs hr))⟩
 refine gN (hrun he) ?_
 cases hs:AV.scalar r with
 |true=>
  rw[hs] at hk
  let N':Nat→Prop:=fun b=>nN N0 ν b∧∀id∈aF args,¬Ow (ν id) b
  have hview:Rv w N' (fun _=>undef) (aU h.objs args) vs:=xc s.hp (fun b g=>g.1) hargs (fun id hid b hb _ g=>g.2 id hid hb);refine (hc N' w vs (fun b g=>?_) (fun p hp=>⟨⟨.inl (s.hp.lw p hp).1,fun id _ e=>s.hp.dis id p.1 e (s.hp.lw p hp).1⟩,(s.hp.lw p hp).2⟩) hview).mono fun e w' ⟨v,he',hkp,hr⟩=>⟨v,he',hn r h (.sub []) _ w' ν hk ?_⟩
  ·rcases g.1 with g|⟨id,g⟩
   ·exact s.hp.n0 b g
   ·exact s.hp.bnd id b g
  ·refine s.seen hkp o.dst ?_
   unfold AV.scalar at hs;split at hs
   ·rw[dj hr];exact .d (.int _ _ .nil) .nil
   ·rw[bU hr];exact .d (.bool _ .nil) .nil
   ·obtain ⟨e1,e2⟩:=fN hr;rw[e1];exact .d (.str _ e2 .nil) .nil
   ·cases hs
 |false=>
  rw[hs] at hk;simp only at hk;generalize hq:pubs (aF args) h.objs=q at hk;obtain ⟨l,m⟩:=q;obtain ⟨ν',s',h1,h2⟩:=St.pubs (ν:=ν) (x:=h.nx) (y:=h.lo) _ s hq
  have hsub:∀b,nN N0 ν' b→nN N0 ν b:=by
   rintro b (g|⟨j,g⟩)
   ·exact .inl g
   ·rcases h1 j with e|e
    ·exact .inr ⟨j,by rw[←e];exact g⟩
    ·exact absurd g (e b)
  have hview:Rv w (nN N0 ν') (fun _=>undef) (aU h.objs args) vs:=by
   refine xc s.hp hsub hargs (fun id hid b hb hrow g=>?_);have hu:=h2 id hid hrow;rcases g with g|⟨j,g⟩
   ·exact s.hp.dis id b hb g
   ·rcases h1 j with e|e
    ·have hj:j=id:=s.hp.inj j id b (by rw[←e];exact g) hb
     subst hj;exact absurd g (hu b)
    ·exact absurd g (e b)
  refine (hc (nN N0 ν') w vs (fun b g=>?_) (fun p hp=>⟨.inl (s.hp.lw p hp).1,(s.hp.lw p hp).2⟩) hview).mono fun e w' ⟨v,he',hkp,hr⟩=>⟨v,he',hn r ⟨l,h.nx,h.lo⟩ (.sub m) _ w' ν' hk (s'.seen hkp o.dst ?_)⟩
  ·rcases g with g|⟨id,g⟩
   ·exact s'.hp.n0 b g
   ·exact s'.hp.bnd id b g
  ·exact hr.mv (Mv.refl _ _) (fun _ h=>absurd rfl h)
end
end Go.Vc
end
section
namespace Go.Vc
section
variable {P:Program} {ro:Option Nat} {q:Md} {T:List (Nat×TI)} {N0 Nf:Nat→Prop} {w0 w w':World} {n:Nat} {σ:Env} {h:Heap} {a:Act} {ν ν' ν0:Nat→Value} {Q:Exit→Act→World→Prop} {next:Act→World→Prop}
def Looks (P:Program) (a:Act) (w:World) (N:Nat→Prop) (ν:Nat→Value) (o:Oper) (r:AV):Prop:=
 ∃v,(execOp a.eval o).run P w= .ok (.value v) w∧Rv w N ν [r] [v]
theorem au {o:Oper} {r:AV} (s:St q N0 w0 Nf n ν0 σ h a w ν) (hl:Looks P a w (nN N0 ν) ν o r) (hn:∀a' w',St q N0 w0 Nf n ν0 (σ.putO n o.dst r) h a' w' ν→next a' w'):o.wpIn (G ro) 0 P a w next Q:=by
 obtain ⟨v,h1,h2⟩:=hl;exact bD h1 (hn _ _ (s.seen (Kp.refl _ _) o.dst h2))
theorem Fn {op:BinOp} {k:IntKind} {x y:Int} {d:D} (hb:CR op k x y=some d) (xt:TypeId):∃v,(binOp op xt (.int k x) (.int k y)).run P w= .ok v w∧∀N ν,Rv w N ν [.d d] [v]:=by
 unfold CR at hb;split at hb<;>simp only[Qab,reduceCtorEq] at hb<;>subst hb;all_goals simp only[binOp,ne_eq,not_true_eq_false,if_false,Op.intArith,Op.intCmp,Op.intBits,Hi,Sem.run_pure]
 all_goals refine ⟨_,rfl,fun N ν=>?_⟩
 all_goals first|exact .d (.int _ _ .nil) .nil|exact .d (.bool _ .nil) .nil
theorem Fm {op:BinOp} {x y:Bs} {d:D} (hb:CQ op x y=some d) (xt:TypeId):∃v,(binOp op xt (.string (fI x)) (.string (fI y))).run P w= .ok v w∧∀N ν,Rv w N ν [.d d] [v]:=by
 unfold CQ at hb;split at hb<;>simp only[Qab,reduceCtorEq] at hb<;>subst hb;all_goals simp only[binOp,Op.stringOp,fI,ByteArray.toList_mk,Sem.run_pure]
 all_goals refine ⟨_,rfl,fun N ν=>?_⟩
 all_goals exact .d (.bool _ .nil) .nil
theorem ea (op:BinOp) (t:TypeId) (x y:Operand) (u v:Value) (hu:∀cs,u≠ .agg cs) (hu':u≠ .nilIface):(eqGuard op t x y u v).run P w= .ok () w:=by
 unfold eqGuard
 cases hm:(!(op matches .eql| .neq)) with
 |true=>simp
 |false=>
  simp only[QaN,if_false,Sem.run_bind,Sem.run_pure,Qaf];cases u<;>first|(exact absurd rfl (hu _))|(exact absurd rfl hu')|(cases v<;>rfl)
theorem CS {op:BinOp} {x y:Bool} {xt:TypeId} {d:D} (ht:P.underlying xt=some .bool)
 (hb:(match op with| .eql=>some (D.bool (x==y))| .neq=>some (.bool (!(x==y)))|_=>none)=some d):
 ∃v,(binOp op xt (.bool x) (.bool y)).run P w= .ok v w∧∀N ν,Rv w N ν [.d d] [v]:=by
 have he:(Op.equal xt (.bool x) (.bool y)).run P w= .ok (x==y) w:=by
  unfold Op.equal Op.maxDepth Op.equalIn;simp[run_underlying ht]
 cases op<;>simp only[Qab,reduceCtorEq] at hb<;>subst hb;all_goals simp only[binOp,Sem.run_bind,he,Qaf,Sem.run_pure]
 all_goals exact ⟨_,rfl,fun N ν=> .d (.bool _ .nil) .nil⟩
theorem KU (place:Nat→Option (Nat×Nat)):True:=trivial
theorem sU {t:TypeId} {ti:TI} (k:fH P t ti) (hz:ti.size≠0) (f:Field) (hf:f.type=t) (b o:Nat):(fieldPlace ⟨b,o,none⟩ f).run P w= .ok ⟨b,o+f.offset,none⟩ w:=by
 unfold fieldPlace;rw[hf];simp only[Sem.run_bind,bI k,Qaf];rw[if_neg hz,Sem.run_pure,Addr.add_lit]
theorem pI {t:TypeId} {ti:TI} (k:fH P t ti) {fs:List (Nat×TypeId)} (hk:ti.kind= .struct fs):∃fields,P.underlying t=some (.struct fields)∧fields.toList.map (fun f=>(f.offset,f.type))=fs:=by
 obtain ⟨d,h1,h2⟩:=k.kind;rw[hk] at h2;cases d<;>simp[eD] at h2;exact ⟨_,h1,h2⟩
theorem db {t:TypeId} {ti:TI} (k:fH P t ti) {e:TypeId} (hk:ti.kind= .slice e):P.underlying t=some (.slice e):=by
 obtain ⟨d,h1,h2⟩:=k.kind;rw[hk] at h2;cases d<;>simp[eD] at h2;subst h2;exact h1
theorem Bn {t:TypeId} {ti:TI} (k:fH P t ti) {n e:Nat} (hk:ti.kind= .array n e):P.underlying t=some (.array n e):=by
 obtain ⟨d,h1,h2⟩:=k.kind;rw[hk] at h2;unfold eD at h2;split at h2<;>simp_all
theorem pJ {t:TypeId} {ti:TI} (k:fH P t ti) (hk:ti.kind= .str):P.underlying t=some .string:=by
 obtain ⟨d,h1,h2⟩:=k.kind;rw[hk] at h2;cases d<;>simp[eD] at h2;exact h1
theorem Io {t:TypeId} {ti:TI} (k:fH P t ti) (hk:ti.kind= .bool):P.underlying t=some .bool:=by
 obtain ⟨d,h1,h2⟩:=k.kind;rw[hk] at h2;cases d<;>simp[eD] at h2;exact h1
theorem Cl {t:TypeId} {ti:TI} (k:fH P t ti) {kd:IntKind} (hk:ti.kind= .int kd):P.underlying t=some (.int kd):=by
 obtain ⟨d,h1,h2⟩:=k.kind;rw[hk] at h2;cases d<;>simp[eD,kindEq_iff] at h2;subst h2;exact h1
theorem uo {fields:Array Field} {fs:List (Nat×TypeId)} (hf:fields.toList.map (fun f=>(f.offset,f.type))=fs) {i off:Nat} {t:TypeId} (h:fs[i]? =some (off,t)):
 ∃f,fields[i]? =some f∧f.offset=off∧f.type=t:=by
 rw[←hf,List.getElem?_map] at h
 cases hq:fields.toList[i]? with
 |none=>rw[hq] at h;cases h
 |some f=>
  rw[hq] at h;simp only[QaB,Qab,Qau] at h;exact ⟨f,by simpa using hq,h.1,h.2⟩
theorem zO {s t:TypeId} {ti tf:TI} (k:fH P s ti) (k':fH P t tf) {fs:List (Nat×TypeId)} (hk:ti.kind= .struct fs) {i off:Nat} (hi:fs[i]? =some (off,t)) (hz:tf.size≠0) (b o:Nat):
 (Instr.fieldAt s (.pointer (some ⟨b,o,none⟩)) i).run P w= .ok (.pointer (some ⟨b,o+off,none⟩)) w:=by
 obtain ⟨fields,h1,h2⟩:=pI k hk;obtain ⟨f,h3,rfl,h4⟩:=uo h2 hi;unfold Instr.fieldAt;simp only[Sem.run_bind,run_underlying h1,Qaf,h3,Instr.sureAddr,Sem.run_pure,sU k' hz f h4]
theorem zN {t:TypeId} {ti:TI} (k:fH P t ti) {xs:List Value} {off:Nat} (hlen:((xs.drop off).take ti.size).length=ti.size):
 (part t xs.toArray off).run P w= .ok (if ti.isAgg then .agg ((xs.drop off).take ti.size).toArray else ((xs.drop off).take ti.size).getD 0 undef) w:=by
 unfold part;simp only[Sem.run_bind,pP k,Qaf]
 cases hag:ti.isAgg with
 |true=>
  simp only[if_true,Sem.run_bind,bI k,Qaf,Sem.run_pure]
  congr 2
  apply Array.ext';simp only[Array.toList_extract,List.extract_eq_take_drop]
  congr 1
  omega
 |false=>
  have h1:=k.one hag;simp only[QaN,if_false];rw[h1] at hlen ⊢
  cases hd:xs.drop off with
  |nil=>rw[hd] at hlen;simp at hlen
  |cons c cs=>
   have:xs[off]? =some c:=by
    have:=congrArg (fun l=>l[0]?) hd;simpa using this
   simp[this]
end
end Go.Vc
end
