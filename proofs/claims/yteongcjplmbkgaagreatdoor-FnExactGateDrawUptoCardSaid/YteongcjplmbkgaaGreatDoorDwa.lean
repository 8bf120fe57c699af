/- Part 1 of a proof: The package variables that the statement's row lists, and what they hold: printed by genlaws.py. A verification condition generator for the loaded Go code: abstract values, abstract heaps, and the condition 'vc' of a piece of code, computed by recursion. Its soundness is proved in the next texts. How abstract values stand for Go values in a world, and that this stands when the world goes on. Abstract heaps and states: what they say of a world and a frame, and the moves that keep it. The table of types, held against the program; what single operations do. What single operations do: those that o -/
import Derived.Calls
import Derived.Still
import Derived.Laws.AppendOwn
import Derived.Laws.CopyRow
import Derived.CallsIn
import Derived.RangeFuncCalls
import Derived.OrdersIn
import Derived.TacticsIn
import Derived.RangeFuncNested
import Derived.Laws.Strings
import Derived.Laws.Tables
set_option linter.unusedVariables false
set_option linter.unusedSimpArgs false
section
namespace Go.Vc
def LG:List (Nat×Value):=[(0,.iface 297 (.agg #[.pointer (some ⟨1,252,none⟩)]))]
end Go.Vc
end
section
namespace Go.Vc
theorem ai.{u} {α:Sort u} {x:α} {Q:Prop} (h:Q):x=x∧Q:=⟨rfl,h⟩
theorem aj {p q:Prop} (h:p) (k:q):p∧q:=⟨h,k⟩
abbrev Bs:=List UInt8
def ap:Nat:=1073741824
inductive D where
 |int (k:IntKind) (n:Int)
 |bool (b:Bool)
 |str (s:Bs)
 |list (rows:List (List D))
 |fn (f:FuncId)
 |raw (v:Value)
inductive AV where
 |any
 |d (x:D)
 |nils
 |val (v:Value)
 |agg (cs:List AV)
 |tup (vs:List AV)
 |ptr (id off:Nat)
 |at_ (ds:List D)
 |rptr (id i sz off:Nat)
 |own (id:Nat)
 |nest (id i off m j:Nat)
 |mapr (id:Nat)
 |fn (f:FuncId) (caps:List AV)
 |bfn (f:FuncId) (first:List AV)
 |iface (t:TypeId) (x:AV)
inductive TK where
 |int (k:IntKind)|bool|str
 |slice (e:TypeId)
 |struct (fs:List (Nat×TypeId))
 |map (k e:TypeId)
 |array (n:Nat) (e:TypeId)
 |iface|ptr|func|other|pair
 |del (k:TK)
def TK.base:TK→TK
 | .del k=>k
 |k=>k
def TK.isDel:TK→Bool
 | .del _=>true
 |_=>false
inductive NT where
 |leaf
 |list (t sz:Nat) (fs:List NT)
mutual
def sM:NT→NT→Bool
 | .leaf,.leaf=>true
 | .list t sz fs,.list t' sz' fs'=>Nat.beq t t'&&Nat.beq sz sz'&&hU fs fs'
 | .leaf,.list _ _ _=>false
 | .list _ _ _,.leaf=>false
termination_by structural x=>x
def hU:List NT→List NT→Bool
 |[],[]=>true
 |f::fs,g::gs=>sM f g&&hU fs gs
 |[],_::_=>false
 |_::_,[]=>false
termination_by structural x=>x
end
inductive AO where
 |cells (t:TypeId) (cs:List AV)
 |row (t:TypeId) (sz:Nat) (rows:List (List D))
 |tree (t:TypeId) (sz:Nat) (fs:List NT) (rows:List (List D))
 |map (t:TypeId) (tk:TK) (es:List (List D×AV))
structure Heap where
 objs:List (Nat×AO)
 nx:Nat
 lo:Nat
def hp0:Heap:=⟨[],0,0⟩
abbrev Env:=Nat→AV
def Env.put (σ:Env) (k:Nat) (v:AV):Env:=fun j=>bif Nat.beq j k then v else σ j
def Env.putO (σ:Env) (n:Nat):Option Nat→AV→Env
 |none,_=>σ
 |some k,v=>bif Nat.ble (k+1) n then σ.put k v else σ
def look {α:Type}:List (Nat×α)→Nat→Option α
 |[],_=>none
 |(k,v)::r,j=>bif Nat.beq j k then some v else look r j
def eQ (l:List (Nat×AO)) (i:Nat):Option (List (List D)):=match look l i with
 |some (.row _ _ rows)=>some rows
 |some (.tree _ _ _ rows)=>some rows
 |_=>none
theorem m4 {l:List (Nat×AO)} {i:Nat} {rows:List (List D)} (h:eQ l i=some rows):(∃t sz,look l i=some (.row t sz rows))∨∃t sz fs,look l i=some (.tree t sz fs rows):=by
 unfold eQ at h
 split at h
 ·rename_i t sz r e;injection h with h;subst h;exact .inl ⟨t,sz,e⟩
 ·rename_i t sz fs r e;injection h with h;subst h;exact .inr ⟨t,sz,fs,e⟩
 ·cases h
def Env.of (l:List (Nat×AV)):Env:=fun j=>match look l j with|some v=>v|none=> .any
def Env.args (l:List AV):Env:=fun j=>match l[j]? with|some v=>v|none=> .any
mutual
def AV.sub (i:Nat) (b:AV):AV→AV
 | .agg cs=> .agg (bj i b cs)
 | .tup cs=> .tup (bj i b cs)
 | .ptr id off=>bif Nat.beq id i then .any else .ptr id off
 | .rptr id k sz off=>bif Nat.beq id i then .any else .rptr id k sz off
 | .own id=>bif Nat.beq id i then b else .own id
 | .nest id k off m j=>bif Nat.beq id i then .any else .nest id k off m j
 | .mapr id=>bif Nat.beq id i then .any else .mapr id
 | .fn f cs=> .fn f (bj i b cs)
 | .bfn f cs=> .bfn f (bj i b cs)
 | .iface t x=> .iface t (AV.sub i b x)
 | .any=> .any
 | .d x=> .d x
 | .nils=> .nils
 | .val v=> .val v
 | .at_ ds=> .at_ ds
termination_by structural x=>x
def bj (i:Nat) (b:AV):List AV→List AV
 |[]=>[]
 |c::cs=>AV.sub i b c::bj i b cs
termination_by structural x=>x
end
mutual
def AV.view (l:List (Nat×AO)):AV→AV
 | .own id=>match eQ l id with
   |some rows=> .d (.list rows)
   |none=> .any
 | .nest _ _ _ _ _=> .any
 | .nils=> .d (.list [])
 | .agg cs=> .agg (aV l cs)
 | .tup cs=> .tup (aV l cs)
 | .iface t x=> .iface t (AV.view l x)
 | .any=> .any
 | .d x=> .d x
 | .val (.bool b)=> .d (.bool b)
 | .val v=> .val v
 | .ptr _ _=> .any
 | .rptr _ _ _ _=> .any
 | .at_ ds=> .at_ ds
 | .mapr _=> .any
 | .fn f cs=> .fn f (aV l cs)
 | .bfn f cs=> .bfn f (aV l cs)
termination_by structural x=>x
def aV (l:List (Nat×AO)):List AV→List AV
 |[]=>[]
 |c::cs=>AV.view l c::aV l cs
termination_by structural x=>x
end
mutual
def bL:AV→List Nat
 | .own id=>[id]
 | .agg cs=>aC cs
 | .tup cs=>aC cs
 | .iface _ x=>bL x
 | .fn _ cs=>aC cs
 | .bfn _ cs=>aC cs
 | .nest _ _ _ _ _=>[]| .any=>[]| .d _=>[]| .nils=>[]| .val _=>[]| .ptr _ _=>[]| .rptr _ _ _ _=>[]| .at_ _=>[]| .mapr _=>[]
termination_by structural x=>x
def aC:List AV→List Nat
 |[]=>[]
 |c::cs=>bL c++aC cs
termination_by structural x=>x
end
mutual
def AV.lt (n:Nat):AV→Bool
 | .own id=>Nat.ble (id+1) n
 | .nest id _ _ _ _=>Nat.ble (id+1) n
 | .ptr id _=>Nat.ble (id+1) n
 | .rptr id _ _ _=>Nat.ble (id+1) n
 | .mapr id=>Nat.ble (id+1) n
 | .agg cs=>ba n cs
 | .tup cs=>ba n cs
 | .fn _ cs=>ba n cs
 | .bfn _ cs=>ba n cs
 | .iface _ x=>AV.lt n x
 | .any=>true| .d _=>true| .nils=>true| .val _=>true| .at_ _=>true
termination_by structural x=>x
def ba (n:Nat):List AV→Bool
 |[]=>true
 |c::cs=>AV.lt n c&&ba n cs
termination_by structural x=>x
end
mutual
def AV.noOwn:AV→AV
 | .agg cs=> .agg (aR cs)
 | .tup cs=> .tup (aR cs)
 | .ptr id off=> .ptr id off
 | .rptr _ _ _ _=> .any
 | .own _=> .any
 | .nest _ _ _ _ _=> .any
 | .mapr id=> .mapr id
 | .fn f cs=> .fn f (aR cs)
 | .bfn f cs=> .bfn f (aR cs)
 | .iface t x=> .iface t (AV.noOwn x)
 | .any=> .any
 | .d x=> .d x
 | .nils=> .nils
 | .val v=> .val v
 | .at_ ds=> .at_ ds
termination_by structural x=>x
def aR:List AV→List AV
 |[]=>[]
 |c::cs=>AV.noOwn c::aR cs
termination_by structural x=>x
end
def dsOf:List AV→Option (List D)
 |[]=>some []
 | .d x::r=>(dsOf r).map (x:: ·)
 | .nils::r=>(dsOf r).map (.list []:: ·)
 | .fn f []::r=>(dsOf r).map (.fn f:: ·)
 |_=>none
def eH (l:List (Nat×AO)):AV→AV
 | .own id=>match eQ l id with
   |some rows=> .d (.list rows)
   |none=> .any
 | .val (.bool b)=> .d (.bool b)
 |a=>a
mutual
def bU (l:List (Nat×AO)):AV→AV
 | .own id=>match eQ l id with
   |some rows=> .d (.list rows)
   |none=> .any
 | .nest _ _ _ _ _=> .any
 | .ptr id off=>match look l id with
   |some (.cells _ cs)=>match dsOf ((cs.drop off).map (eH l)) with
    |some (x::r)=> .at_ (x::r)
    |_=> .any
   |_=> .any
 | .nils=> .d (.list [])
 | .agg cs=> .agg (aP l cs)
 | .tup cs=> .tup (aP l cs)
 | .iface t x=> .iface t (bU l x)
 | .any=> .any
 | .d x=> .d x
 | .val (.bool b)=> .d (.bool b)
 | .val v=> .val v
 | .rptr _ _ _ _=> .any
 | .at_ ds=> .at_ ds
 | .mapr _=> .any
 | .fn f cs=> .fn f (aP l cs)
 | .bfn f cs=> .bfn f (aP l cs)
termination_by structural x=>x
def aP (l:List (Nat×AO)):List AV→List AV
 |[]=>[]
 |c::cs=>bU l c::aP l cs
termination_by structural x=>x
end
mutual
def dl (l:List (Nat×AO)) (g:Nat→Option Addr×Nat):AV→AV
 | .own id=>match look l id with
   |some (.row _ _ rows)=> .val (.slice (g id).1 rows.length (g id).2)
   |_=> .any
 | .nest _ _ _ _ _=> .any
 | .agg cs=> .agg (bn l g cs)
 | .tup cs=> .tup (bn l g cs)
 | .nils=> .d (.list [])
 | .any=> .any
 | .d x=> .d x
 | .val (.bool b)=> .d (.bool b)
 | .val v=> .val v
 | .at_ ds=> .at_ ds
 | .iface _ _=> .any
 | .ptr _ _=> .any
 | .rptr _ _ _ _=> .any
 | .mapr _=> .any
 | .fn _ _=> .any
 | .bfn _ _=> .any
termination_by structural x=>x
def bn (l:List (Nat×AO)) (g:Nat→Option Addr×Nat):List AV→List AV
 |[]=>[]
 |c::cs=>dl l g c::bn l g cs
termination_by structural x=>x
end
mutual
def df (k:Nat):AV→AV
 | .own id=> .own (id+k)
 | .nest _ _ _ _ _=> .any
 | .agg cs=> .agg (bD k cs)
 | .tup cs=> .tup (bD k cs)
 | .nils=> .nils
 | .any=> .any
 | .d x=> .d x
 | .val v=> .val v
 | .at_ ds=> .at_ ds
 | .iface _ _=> .any
 | .ptr _ _=> .any
 | .rptr _ _ _ _=> .any
 | .mapr _=> .any
 | .fn _ _=> .any
 | .bfn _ _=> .any
termination_by structural x=>x
def bD (k:Nat):List AV→List AV
 |[]=>[]
 |c::cs=>df k c::bD k cs
termination_by structural x=>x
end
def Fo (k:Nat) (l0:List (Nat×AO)):List (Nat×AO)→List (Nat×AO)→List (Nat×AO)
 |[],l=>l
 |(i,_)::r,l=>match look l0 i with
  |some (.row t sz rows)=>(i+k,.row t sz rows)::Fo k l0 r l
  |some (.tree t sz fs rows)=>(i+k,.tree t sz fs rows)::Fo k l0 r l
  |_=>Fo k l0 r l
def Heap.join (h h':Heap):Heap:=⟨Fo h.nx h'.objs h'.objs h.objs,h'.nx+h.nx,h.lo⟩
def zj (i:Nat) (b:AV):List (List D×AV)→List (List D×AV)
 |[]=>[]
 |(k,a)::r=>(k,AV.sub i b a)::zj i b r
def ER (n:Nat):List (List D×AV)→Prop
 |[]=>True
 |(_,a)::r=>a.lt n=true∧ER n r
def AO.sub (i:Nat) (b:AV):AO→AO
 | .cells t cs=> .cells t (bj i b cs)
 | .row t sz rows=> .row t sz rows
 | .tree t sz fs rows=> .tree t sz fs rows
 | .map t tk es=> .map t tk (zj i b es)
def tB (i:Nat) (b:AV):List (Nat×AO)→List (Nat×AO)
 |[]=>[]
 |(k,o)::r=>(k,o.sub i b)::tB i b r
def del {α:Type} (i:Nat):List (Nat×α)→List (Nat×α)
 |[]=>[]
 |(k,o)::r=>bif Nat.beq k i then del i r else (k,o)::del i r
def re (i:Nat) (x:AO):List (Nat×AO)→List (Nat×AO)
 |[]=>[]
 |(k,o)::r=>bif Nat.beq k i then (k,x)::r else (k,o)::re i x r
def Env.sub (i:Nat) (b:AV) (σ:Env):Env:=fun k=>AV.sub i b (σ k)
def Env.subs:List (Nat×AV)→Env→Env
 |[],σ=>σ
 |(i,b)::m,σ=>Env.subs m (Env.sub i b σ)
def sN:List (Nat×AV)→List AV→List AV
 |[],as=>as
 |(i,b)::m,as=>sN m (bj i b as)
inductive Rn where
 |sub (m:List (Nat×AV))
 |drop
 |tsub (ks:List Nat)
 |mv (a b:Nat)
mutual
def AV.map (f:Nat→Option Nat):AV→AV
 | .ptr id off=>match f id with|some j=> .ptr j off|none=> .any
 | .rptr id i sz off=>match f id with|some j=> .rptr j i sz off|none=> .any
 | .own id=>match f id with|some j=> .own j|none=> .any
 | .nest _ _ _ _ _=> .any
 | .mapr id=>match f id with|some j=> .mapr j|none=> .any
 | .agg cs=> .agg (aM f cs)
 | .tup cs=> .tup (aM f cs)
 | .fn g cs=> .fn g (aM f cs)
 | .bfn g cs=> .bfn g (aM f cs)
 | .iface t x=> .iface t (AV.map f x)
 | .any=> .any
 | .d x=> .d x
 | .nils=> .nils
 | .val v=> .val v
 | .at_ ds=> .at_ ds
termination_by structural x=>x
def aM (f:Nat→Option Nat):List AV→List AV
 |[]=>[]
 |c::cs=>AV.map f c::aM f cs
termination_by structural x=>x
end
def DF (f:Nat→Option Nat):List (List D×AV)→List (List D×AV)
 |[]=>[]
 |(k,a)::r=>(k,AV.map f a)::DF f r
def AO.map' (f:Nat→Option Nat):AO→AO
 | .cells t cs=> .cells t (aM f cs)
 | .row t sz rows=> .row t sz rows
 | .tree t sz fs rows=> .tree t sz fs rows
 | .map t tk es=> .map t tk (DF f es)
def kr (ks:List Nat) (id:Nat):Option Nat:=bif ks.any (Nat.beq id) then none else some id
def AV.unn (ks:List Nat) (a:AV):AV:=AV.map (kr ks) a
def AO.unn (ks:List Nat) (o:AO):AO:=AO.map' (kr ks) o
def k9 (ks:List Nat):List (Nat×AO)→List (Nat×AO)
 |[]=>[]
 |(k,o)::r=>bif ks.any (Nat.beq k) then k9 ks r else (k,o.unn ks)::k9 ks r
def wn (a b i:Nat):Option Nat:=bif Nat.beq i a then some b else bif Nat.beq i b then none else some i
def FC (a b:Nat):List (Nat×AO)→List (Nat×AO)
 |[]=>[]
 |(k,o)::r=>match wn a b k with
  |some i=>(i,o.map' (wn a b))::FC a b r
  |none=>FC a b r
def Env.ren:Rn→Env→Env
 | .sub m,σ=>Env.subs m σ
 | .drop,σ=>fun k=>AV.noOwn (σ k)
 | .tsub ks,σ=>fun k=>AV.unn ks (σ k)
 | .mv a b,σ=>fun k=>AV.map (wn a b) (σ k)
def Heap.new (h:Heap) (o:AO):Heap:=⟨(h.nx,o)::h.objs,h.nx+1,h.lo⟩
def Heap.set (h:Heap) (i:Nat) (o:AO):Heap:=⟨re i o h.objs,h.nx,h.lo⟩
def pubs:List Nat→List (Nat×AO)→List (Nat×AO)×List (Nat×AV)
 |[],l=>(l,[])
 |i::is,l=>match eQ l i with
  |some rows=>match pubs is (tB i (.d (.list rows)) (del i l)) with
   |(l',m)=>(l',(i,.d (.list rows))::m)
  |none=>pubs is l
def zY:List Nat→Nat→Nat→Option Nat
 |[],_,_=>none
 |i::is,n,k=>bif Nat.beq k i then some n else zY is (n+1) k
def se (ids:List Nat) (k:Nat):Option Nat:=zY ids 0 k
def jC (ids:List Nat) (nx:Nat) (j:Nat):Option Nat:=match ids[j]? with|some i=>some i|none=>some (j+nx)
def mS (ids:List Nat) (l:List (Nat×AO)):List Nat→Nat→Option (List (Nat×AO))
 |[],_=>some []
 |i::is,n=>match look l i with
  |some o=>match mS ids l is (n+1) with
   |some r=>some ((n,o.map' (se ids))::r)
   |none=>none
  |none=>none
def qc (ids:List Nat) (h:Heap):Option Heap:=match mS ids h.objs ids 0 with
 |some l=>some ⟨l,ids.length,ids.length⟩
 |none=>none
def Ak (ids:List Nat) (nx:Nat) (rest:List (Nat×AO)):List (Nat×AO)→List (Nat×AO)
 |[]=>rest
 |(j,o)::r=>match jC ids nx j with
  |some i=>(i,o.map' (jC ids nx))::Ak ids nx rest r
  |none=>Ak ids nx rest r
def Cy (ks:List Nat):List (Nat×AO)→List (Nat×AO)
 |[]=>[]
 |(k,o)::r=>bif ks.any (Nat.beq k) then Cy ks r else (k,o.unn [])::Cy ks r
def fP (ids:List Nat) (h h':Heap):Heap:=⟨Ak ids h.nx (Cy ids h.objs) h'.objs,h'.nx+h.nx,h.lo⟩
def iC:List Nat→Bool
 |[]=>true
 |i::is=> !(is.any (Nat.beq i))&&iC is
def nl:List NT→Nat
 |[]=>0
 | .leaf::fs=>nl fs
 | .list _ _ _::fs=>nl fs+1
def CV (l:List (Nat×AO)):NT→AV→Option (D×List Nat)
 | .leaf,a=>match (match a with| .val (.bool b)=>AV.d (.bool b)|a=>a) with
   | .d (.int k n)=>some (.int k n,[])
   | .d (.bool b)=>some (.bool b,[])
   | .d (.str x)=>some (.str x,[])
   |_=>none
 | .list t sz fs,a=>match a with
   | .nils=>some (.list [],[])
   | .own id=>match look l id with
     |some (.tree t' sz' fs' rows)=>bif Nat.beq t t'&&Nat.beq sz sz'&&hU fs fs' then some (.list rows,[id]) else none
     |_=>none
   |_=>none
def pi (l:List (Nat×AO)):List NT→List AV→Option (List D×List Nat)
 |[],[]=>some ([],[])
 |f::fs,a::as=>match CV l f a with
  |some (d,i)=>match pi l fs as with
   |some (ds,is)=>some (d::ds,i++is)
   |none=>none
  |none=>none
 |[],_::_=>none
 |_::_,[]=>none
def eY (id i m:Nat):List NT→List D→Nat→Nat→List AV
 | .leaf::fs,d::ds,o,j=> .d d::eY id i m fs ds (o+1) j
 | .list _ _ _::fs,_::ds,o,j=> .nest id i o m j::eY id i m fs ds (o+1) (j+1)
 |[],_,_,_=>[]
 |_::_,[],_,_=>[]
def zM:List NT→Bool
 |[]=>true
 | .leaf::fs=>zM fs
 | .list _ sz gs::fs=>Nat.beq gs.length sz&&Nat.ble 1 sz&&zM fs
def vk:List NT→List AV→Bool
 |[],[]=>true
 | .leaf::fs,.d (.int _ _)::as=>vk fs as
 | .leaf::fs,.d (.bool _)::as=>vk fs as
 | .leaf::fs,.d (.str _)::as=>vk fs as
 | .list _ _ _::fs,.nils::as=>vk fs as
 |_,_=>false
def D.flat:D→Bool
 | .int _ _=>true
 | .bool _=>true
 | .str _=>true
 |_=>false
def gI (sz:Nat) (r:List D):Prop:=r.length=sz∧∀d∈r,d.flat=true
def bR:List NT→Bool
 |[]=>true
 | .leaf::fs=>bR fs
 | .list _ _ _::_=>false
mutual
def gM:AV→Bool
 | .own _=>true
 | .d (.int _ _)=>true
 | .d (.bool _)=>true
 | .d (.str _)=>true
 | .val (.bool _)=>true
 | .nils=>true
 | .agg cs=>du cs
 | .tup cs=>du cs
 |_=>false
termination_by structural x=>x
def du:List AV→Bool
 |[]=>true
 |c::cs=>gM c&&du cs
termination_by structural x=>x
end
def lN:List (Nat×AO)→Bool
 |[]=>true
 |(_,.tree _ _ _ _)::r=>lN r
 |_::_=>false
def vj:AV→Bool
 | .nest _ _ _ _ _=>true
 |_=>false
def ju:List AV→Option ((Nat×Nat×Nat×Nat×Nat)×List AV)
 |[]=>none
 | .nest id i off m j::as=>bif as.any vj then none else some ((id,i,off,m,j),.own 0::aM (fun _=>none) as)
 |a::as=>match ju as with
  |some (p,as')=>some (p,AV.map (fun _=>none) a::as')
  |none=>none
structure TI where
 kind:TK
 size:Nat
 bytes:Nat
 zero:List AV
 meths:List (String×FuncId):=[]
 pair:Bool:=false
 nts:List NT:=[]
def TI.key (t:TI):TK:=bif t.pair then .pair else t.kind
def TI.isAgg (t:TI):Bool:=match t.kind with| .struct _=>true| .array _ _=>true|_=>false
def G6:Value→AV
 | .int k n=> .d (.int k n)
 | .string s=>match s.data.toList with
   |[]=> .d (.str [])
   |c::r=>bif Nat.ble (c::r).length ap then .d (.str (c::r)) else .any
 | .slice none 0 0=> .nils
 |v=> .val v
def ev (σ:Env):Operand→AV
 | .tmp t=>σ t
 | .const v=>G6 v
 | .func f=> .fn f []
 | .global _=> .any
def li:AV→AV
 | .val (.bool b)=> .d (.bool b)
 |a=>a
def wi (t:Bool) (a b:AV):AV:=
 match li a,li b with
 | .d (.bool x),.d (.bool y)=> .d (.bool (bif t then x else y))
 |a,b=>bif t then a else b
def El (op:BinOp) (k:IntKind) (a b:Int):Int:=match op with
 | .and=>k.wrap ((BitVec.ofInt k.bits a)&&& (BitVec.ofInt k.bits b)).toNat
 |_=>k.wrap ((BitVec.ofInt k.bits a)|||(BitVec.ofInt k.bits b)).toNat
def Az (op:BinOp) (k:IntKind) (a b:Int):Option D:=
 match op with
 | .add=>some (.int k (k.wrap (a+b)))
 | .sub=>some (.int k (k.wrap (a - b)))
 | .mul=>some (.int k (k.wrap (a*b)))
 | .and=>some (.int k (El op k a b))
 | .or=>some (.int k (El op k a b))
 | .eql=>some (.bool (a==b))
 | .neq=>some (.bool (a !=b))
 | .lss=>some (.bool (decide (a<b)))
 | .leq=>some (.bool (decide (a≤b)))
 | .gtr=>some (.bool (decide (a>b)))
 | .geq=>some (.bool (decide (a≥b)))
 |_=>none
def Ay (op:BinOp) (a b:Bs):Option D:=
 match op with
 | .eql=>some (.bool (a==b))
 | .neq=>some (.bool (!(a==b)))
 | .lss=>some (.bool (Op.bytesLess a b))
 | .leq=>some (.bool (Op.bytesLess a b||a==b))
 | .gtr=>some (.bool (!(Op.bytesLess a b||a==b)))
 | .geq=>some (.bool (!(Op.bytesLess a b)))
 |_=>none
def fK:IntKind→IntKind→Bool
 | .i8,.i8| .i16,.i16| .i32,.i32| .i64,.i64| .u8,.u8| .u16,.u16| .u32,.u32| .u64,.u64=>true
 |_,_=>false
def GV (T:List (Nat×TI)) (t:TypeId) (op:BinOp):AV→AV→Option D
 | .d (.int k a),.d (.int k' b)=>bif fK k k' then Az op k a b else none
 | .d (.str a),.d (.str b)=>Ay op a b
 | .d (.bool a),.d (.bool b)=>match look T t with
   |some ti=>match ti.kind with
    | .bool=>match op with
      | .eql=>some (.bool (a==b))
      | .neq=>some (.bool (!(a==b)))
      |_=>none
    |_=>none
   |none=>none
 |_,_=>none
def nE (T:List (Nat×TI)) (t:TypeId) (op:BinOp) (x:AV):Option D:=match look T t with
 |some ti=>match ti.kind,op,x with
  | .iface,.eql,.iface _ _=>some (.bool false)
  | .iface,.neq,.iface _ _=>some (.bool true)
  | .iface,.eql,.val .nilIface=>some (.bool true)
  | .iface,.neq,.val .nilIface=>some (.bool false)
  |_,_,_=>none
 |none=>none
def jM (ti:TI) (cs:List AV):Option AV:=
 bif ti.isAgg then (bif Nat.ble ti.size cs.length then some (.agg (cs.take ti.size)) else none) else cs.head?
def py (ti:TI) (cs:List D):Option AV:=
 bif ti.isAgg then (bif Nat.ble ti.size cs.length then some (.agg ((cs.take ti.size).map .d)) else none) else (cs.head?).map .d
def AV.one:AV→Bool
 | .d _| .nils| .ptr _ _| .at_ _| .rptr _ _ _ _| .own _| .mapr _| .fn _ _| .bfn _ _| .iface _ _=>true
 | .val v=>v.oneCell'
 |_=>false
def oneL:List AV→Bool
 |[]=>true
 |c::cs=>c.one&&oneL cs
def cellsOf (ti:TI):AV→Option (List AV)
 | .agg cs=>bif ti.isAgg then (bif Nat.beq cs.length ti.size&&oneL cs then some cs else none) else none
 |a=>bif ti.isAgg then none else bif a.one then some [a] else none
def over (cs:List AV) (off:Nat) (new:List AV):List AV:=cs.take off++new++cs.drop (off+new.length)
def dP (cs:List D) (off:Nat) (new:List D):List D:=cs.take off++new++cs.drop (off+new.length)
def Hf:D→Option Int
 | .int _ n=>some n
 |_=>none
abbrev Hs:=AV×Heap×Rn
noncomputable def DZ {β:Type} (l:List AV):(List AV→β)→β:=
 List.rec (motive:=fun _=>(List AV→β)→β) (fun K=>K []) (fun a _ ih K=>ih fun l=>K (a::l)) l
theorem Cw {β:Type} {l:List AV}:∀{K:List AV→β},DZ l K=K l:=by
 induction l with
 |nil=>intro K;rfl
 |cons a l ih=>intro K;exact ih (K:=fun l=>K (a::l))
noncomputable def lG (fs:List (Nat×TypeId)) (T:List (Nat×TI)):List AV→List (Nat×AV)→Option (List AV)
 |cs,[]=>some cs
 |cs,(i,x)::r=>match fs[i]? with
  |some (off,t)=>match look T t with
   |some ti=>match cellsOf ti x with
    |some new=>bif Nat.ble (off+new.length) cs.length then DZ (over cs off new) fun cs'=>lG fs T cs' r else none
    |none=>none
   |none=>none
  |none=>none
def Fa (sz e n:Nat):List (Nat×TypeId):=(List.range n).map fun i=>(i*sz,e)
def oz (ti:TI) (l:List (Nat×AO)):Nat→List (Nat×AV)→Option (List (List D))
 |_,[]=>some []
 |n,(i,x)::r=>bif Nat.beq i n then match cellsOf ti (x.view l) with
   |some cs=>match dsOf cs with
    |some ds=>(oz ti l (n+1) r).map (ds:: ·)
    |none=>none
   |none=>none
  else none
def jZ (ti:TI) (l:List (Nat×AO)):Nat→List (Nat×AV)→Option (List (List D)×List Nat)
 |_,[]=>match ti.nts with|[]=>none|_::_=>some ([],[])
 |n,(i,x)::r=>bif Nat.beq i n then match cellsOf ti x with
   |some cs=>match pi l ti.nts cs with
    |some (ds,ks)=>match jZ ti l (n+1) r with
     |some (rows,ks')=>some (ds::rows,ks++ks')
     |none=>none
    |none=>none
   |none=>none
  else none
def TI.obj (ti:TI) (e:TypeId) (rows:List (List D)):AO:=match ti.nts with
 |[]=> .row e ti.size rows
 |f::fs=> .tree e ti.size (f::fs) rows
def TI.fits (ti:TI):Bool:=match ti.nts with
 |[]=>true
 |f::fs=>vk (f::fs) ti.zero&&Nat.beq (f::fs).length ti.size
noncomputable def bq (T:List (Nat×TI)) (ρ:Operand→AV) (h:Heap):Op→Option Hs
 | .move x=>some (ρ x,h,.sub [])
 | .assign x=>some (ρ x,h,.sub [])
 | .pick c a b=>match ρ c with
   | .d (.bool t)=>some (wi t (ρ a) (ρ b),h,.sub [])
   | .val (.bool t)=>some (bif t then ρ a else ρ b,h,.sub [])
   |_=>none
 | .box t x=>match look T t with
   |some ti=>match cellsOf ti (ρ x) with
    |some cs=>some (.ptr h.nx 0,h.new (.cells t cs),.sub [])
    |none=>none
   |none=>none
 | .alloc t=>match look T t with
   |some ti=>some (.ptr h.nx 0,h.new (.cells t ti.zero),.sub [])
   |none=>none
 | .build t parts=>match look T t with
   |some ti=>match ti.kind with
    | .struct fs=>bif fs.all (fun p=>(look T p.2).isSome) then (lG fs T ti.zero (parts.toList.map fun p=>(p.1,ρ p.2))).map fun cs=>(.agg cs,h,.sub []) else none
    | .array n e=>match look T e with
      |some te=>(lG (Fa te.size e n) T ti.zero (parts.toList.map fun p=>(p.1,ρ p.2))).map fun cs=>(.agg cs,h,.sub [])
      |none=>none
    |_=>none
   |none=>none
 | .buildSlice t len parts=>match look T t with
   |some ti=>match ti.kind with
    | .slice e=>match look T e with
      |some te=>bif Nat.beq len 0 then (bif Nat.ble 1 te.size&&parts.toList.isEmpty&&te.fits then some (.own h.nx,h.new (te.obj e []),.sub []) else none)
       else (bif Nat.beq parts.toList.length len&&Nat.ble (len*te.size) 16777216&&Nat.ble 1 te.size then match jZ te h.objs 0 (parts.toList.map fun p=>(p.1,ρ p.2)) with
        |some (rows,ks)=>bif iC ks then some (.own h.nx,⟨(h.nx,.tree e te.size te.nts rows)::k9 ks h.objs,h.nx+1,h.lo⟩,.tsub ks) else none
        |none=>match oz te h.objs 0 (parts.toList.map fun p=>(p.1,ρ p.2)) with
        |some rows=>match pubs (aC (parts.toList.map fun p=>ρ p.2)) h.objs with
         |(l,m)=>some (.d (.list rows),⟨l,h.nx,h.lo⟩,.sub m)
        |none=>none else none)
      |none=>none
    |_=>none
   |none=>none
 | .load t a=>match look T t with
   |some ti=>match ρ a with
    | .ptr id off=>match look h.objs id with
      |some (.cells _ cs)=>(jM ti (cs.drop off)).map (·,h,.sub [])
      |_=>none
    | .at_ ds=>(py ti ds).map (·,h,.sub [])
    | .rptr id i sz off=>match look h.objs id with
      |some (.row _ sz' rows)=>bif Nat.beq sz sz' then (match rows[i]? with
       |some r=>(py ti (r.drop off)).map (·,h,.sub [])
       |none=>none) else none
      |_=>none
    |_=>none
   |none=>none
 | .fieldAddr s x f=>match look T s with
   |some ti=>match ti.kind with
    | .struct fs=>match fs[f]? with
      |some (off,t)=>match look T t with
       |some tf=>bif Nat.beq tf.size 0 then none else match ρ x with
        | .ptr id o=>some (.ptr id (o+off),h,.sub [])
        | .at_ ds=>match ds.drop off with
          |[]=>none
          |x::r=>some (.at_ (x::r),h,.sub [])
        | .rptr id i sz o=>some (.rptr id i sz (o+off),h,.sub [])
        |_=>none
       |none=>none
      |none=>none
    |_=>none
   |none=>none
 | .field s x f=>match look T s with
   |some ti=>match ti.kind with
    | .struct fs=>match fs[f]? with
      |some (off,t)=>match look T t,ρ x with
       |some tf,.agg cs=>(jM tf (cs.drop off)).map (·,h,.sub [])
       |_,_=>none
      |none=>none
    |_=>none
   |none=>none
 | .binOp op t x y _=>match y with
   | .const .nilIface=>(nE T t op (ρ x)).map (.d ·,h,.sub [])
   |_=>(GV T t op (li (ρ x)) (li (ρ y))).map (.d ·,h,.sub [])
 | .unOp .not _ x=>match ρ x with
   | .d (.bool b)=>some (.d (.bool (!b)),h,.sub [])
   | .val (.bool b)=>some (.val (.bool (!b)),h,.sub [])
   |_=>none
 | .extract x i=>match ρ x with
   | .tup vs=>(vs[i]?).map (·,h,.sub [])
   |_=>none
 | .nilCheck x=>match ρ x with
   | .at_ ds=>some (.at_ ds,h,.sub [])
   | .ptr id off=>some (.ptr id off,h,.sub [])
   | .rptr id i sz off=>some (.rptr id i sz off,h,.sub [])
   |_=>none
 | .makeFunc (.func f) first caps=>bif first.toList.isEmpty then some (.fn f (caps.toList.map ρ),h,.sub []) else bif caps.toList.isEmpty then some (.bfn f (first.toList.map ρ),h,.sub []) else none
 | .makeInterface t x=>match look T t with
   |some ti=>match ti.kind with
    | .iface=>none
    |_=>some (.iface t (ρ x),h,.sub [])
   |none=>none
 | .makeMap t r=>match look T t,r with
   |some ti,none=>match ti.kind with
    | .map kt _=>match look T kt with
      |some tk=>some (.mapr h.nx,h.new (.map t tk.key []),.sub [])
      |none=>none
    |_=>none
   |_,_=>none
 | .convert src dst x=>match look T src,look T dst with
   |some _,some ti=>match ti.kind,ρ x with
    | .int k,.d (.int _ n)=>some (.d (.int k (k.wrap n)),h,.sub [])
    |_,_=>none
   |_,_=>none
 |_=>none
def eu:AV→Bool
 | .d (.int _ _)=>true
 | .d (.bool _)=>true
 | .d (.str _)=>true
 |_=>false
noncomputable def fu (n:Nat):(Nat→Prop)→Prop:=
 Nat.rec (motive:=fun _=>(Nat→Prop)→Prop) (fun K=>K 0) (fun k _ K=>K (k+1)) n
theorem forceN_iff {n:Nat} {K:Nat→Prop}:fu n K↔K n:=by cases n<;>exact Iff.rfl
noncomputable def fQ (r:AV) (K:AV→Prop):Prop:=match r with
 | .any=>K .any
 | .d x=>K (.d x)
 | .nils=>K .nils
 | .val v=>K (.val v)
 | .agg cs=>K (.agg cs)
 | .tup vs=>K (.tup vs)
 | .ptr id off=>fu id fun id=>K (.ptr id off)
 | .at_ ds=>K (.at_ ds)
 | .rptr id i sz off=>fu id fun id=>K (.rptr id i sz off)
 | .own id=>fu id fun id=>K (.own id)
 | .nest id i off m j=>fu id fun id=>K (.nest id i off m j)
 | .mapr id=>fu id fun id=>K (.mapr id)
 | .fn f cs=>K (.fn f cs)
 | .bfn f cs=>K (.bfn f cs)
 | .iface t x=>K (.iface t x)
theorem forceV_iff {r:AV} {K:AV→Prop}:fQ r K↔K r:=by cases r<;>first|exact Iff.rfl|(simp only[fQ];exact forceN_iff)
noncomputable def wN (l:List AV):(List AV→Prop)→Prop:=
 List.rec (motive:=fun _=>(List AV→Prop)→Prop) (fun K=>K []) (fun a _ ih K=>fQ a fun a=>ih fun l=>K (a::l)) l
theorem yK {l:List AV}:∀{K:List AV→Prop},wN l K↔K l:=by
 induction l with
 |nil=>exact Iff.rfl
 |cons a l ih=>intro K;exact (forceV_iff (K:=fun a=>wN l fun l=>K (a::l))).trans (ih (K:=fun l=>K (a::l)))
noncomputable def wM (l:List D):(List D→Prop)→Prop:=
 List.rec (motive:=fun _=>(List D→Prop)→Prop) (fun K=>K []) (fun a _ ih K=>ih fun l=>K (a::l)) l
theorem forceDs_iff {l:List D}:∀{K:List D→Prop},wM l K↔K l:=by
 induction l with
 |nil=>exact Iff.rfl
 |cons a l ih=>intro K;exact ih (K:=fun l=>K (a::l))
noncomputable def sq (o:AO) (K:AO→Prop):Prop:=match o with
 | .cells t cs=>wN cs fun cs=>K (.cells t cs)
 | .row t sz rows=>K (.row t sz rows)
 | .tree t sz fs rows=>K (.tree t sz fs rows)
 | .map t tk es=>K (.map t tk es)
theorem wL {o:AO} {K:AO→Prop}:sq o K↔K o:=by
 cases o with
 |cells t cs=>exact yK
 |row t sz rows=>exact Iff.rfl
 |tree t sz fs rows=>exact Iff.rfl
 |map t tk es=>exact Iff.rfl
noncomputable def nJ (l:List (Nat×AO)):(List (Nat×AO)→Prop)→Prop:=
 List.rec (motive:=fun _=>(List (Nat×AO)→Prop)→Prop) (fun K=>K []) (fun p _ ih K=>match p with|(k,o)=>fu k fun k=>sq o fun o=>ih fun l=>K ((k,o)::l)) l
theorem forceOs_iff {l:List (Nat×AO)}:∀{K:List (Nat×AO)→Prop},nJ l K↔K l:=by
 induction l with
 |nil=>exact Iff.rfl
 |cons p l ih=>obtain ⟨k,o⟩:=p;intro K;exact (forceN_iff (K:=fun k=>sq o fun o=>nJ l fun l=>K ((k,o)::l))).trans ((wL (K:=fun o=>nJ l fun l=>K ((k,o)::l))).trans (ih (K:=fun l=>K ((k,o)::l))))
noncomputable def cH (h:Heap) (K:Heap→Prop):Prop:=match h with|⟨objs,nx,lo⟩=>nJ objs fun objs=>fu nx fun nx=>fu lo fun lo=>K ⟨objs,nx,lo⟩
theorem forceH_iff {h:Heap} {K:Heap→Prop}:cH h K↔K h:=(forceOs_iff (K:=fun objs=>fu h.nx fun nx=>fu h.lo fun lo=>K ⟨objs,nx,lo⟩)).trans ((forceN_iff (K:=fun nx=>fu h.lo fun lo=>K ⟨h.objs,nx,lo⟩)).trans forceN_iff)
structure bX where
 pure:FuncId→List AV→AV→Prop
 heap:FuncId→List AV→Heap→AV→Heap→Prop
 iter:FuncId→List AV→Heap→List (List AV→Prop)→Prop
 fix:FuncId→List AV→Heap→AV→Heap→Prop
 fx:Bool
def C1 (op:BinOp) (k:IntKind) (x y:Int):Int:=match op with
 | .shl=>k.wrap (x*2 ^ (min y.toNat k.bits))
 |_=>x.fdiv (2 ^ (min y.toNat k.bits))
def wz:BinOp→Bool
 | .shl| .shr=>true
 |_=>false
def de (ρ:Operand→AV) (z:Int):Option Operand→Option Int
 |none=>some z
 |some x=>match ρ x with
  | .d (.int _ n)=>some n
  |_=>none
def kZ:List (List D)→Option Bs
 |[]=>some []
 |[.int .u8 n]::r=>match kZ r with
  |some s=>some (UInt8.ofNat n.toNat::s)
  |none=>none
 |_=>none
def w5 (h:Heap):AV→Option Bs
 | .d (.list rows)=>kZ rows
 | .own id=>match look h.objs id with
   |some (.row _ _ rows)=>kZ rows
   |_=>none
 |_=>none
def jr (T:List (Nat×TI)) (ρ:Operand→AV) (h:Heap):Op→Option (Prop×AV×Heap×Rn)
 | .binOp op _ x y _=>bif wz op then (match ρ x,ρ y with
   | .d (.int k a),.d (.int _ b)=>some (0≤b,.d (.int k (C1 op k a b)),h,.sub [])
   |_,_=>none) else match op with
   | .quo=>(match ρ x,ρ y with
     | .d (.int k a),.d (.int k' b)=>bif fK k k' then some (b≠0,.d (.int k (k.wrap (a.tdiv b))),h,.sub []) else none
     |_,_=>none)
   | .rem=>(match ρ x,ρ y with
     | .d (.int k a),.d (.int k' b)=>bif fK k k' then some (b≠0,.d (.int k (a.tmod b)),h,.sub []) else none
     |_,_=>none)
   | .add=>(match ρ x,ρ y with
     | .d (.str a),.d (.str b)=>some (a.length+b.length≤ap,.d (.str (a++b)),h,.sub [])
     |_,_=>none)
   |_=>none
 | .convert src dst x=>match look T src,look T dst,w5 h (ρ x) with
   |some ts,some td,some s=>match ts.kind,td.kind with
    | .slice e,.str=>match look T e with
      |some te=>match te.kind with
       | .int .u8=>some (s.length≤ap,.d (.str s),h,.sub [])
       |_=>none
      |none=>none
    |_,_=>none
   |_,_,_=>none
 | .slice t x lo hi none=>match look T t,ρ x with
   |some ti,.d (.str s)=>match ti.kind,de ρ 0 lo,de ρ s.length hi with
    | .str,some l,some u=>some (0≤l∧l≤u∧u≤s.length,.d (.str ((s.take u.toNat).drop l.toNat)),h,.sub [])
    |_,_,_=>none
   |some ti,.d (.list s)=>match ti.kind,de ρ 0 lo,de ρ s.length hi with
    | .slice e,some l,some u=>match look T e with
      |some te=>some (0≤l∧l≤u∧u≤s.length∧∀r∈s,r.length=te.size,.d (.list ((s.take u.toNat).drop l.toNat)),h,.sub [])
      |none=>none
    |_,_,_=>none
   |_,_=>none
 |_=>none
noncomputable def iv (T:List (Nat×TI)) (ρ:Operand→AV) (h:Heap) (o:Op) (K:AV→Heap→Rn→Prop):Prop:=match bq T ρ h o with
 |some (r,h',m)=>K r h' m
 |none=>match jr T ρ h o with
  |some (c,r,h',m)=>c∧K r h' m
  |none=>False
def dd:List D→List D→Bool
 |[.int k a],[.int k' b]=>fK k k'&&a==b
 |[.str a],[.str b]=>a==b
 |[.bool a],[.bool b]=>a==b
 |[.str a,.str b],[.str c,.str d]=>a==c&&b==d
 |_,_=>false
def dc:TK→List D→Bool
 | .int k,[.int k' _]=>fK k k'
 | .str,[.str _]=>true
 | .bool,[.bool _]=>true
 | .pair,[.str _,.str _]=>true
 |_,_=>false
def uM:AV→Option (List D)
 | .d x=>some [x]
 | .agg [.d x,.d y]=>some [x,y]
 | .val (.bool b)=>some [.bool b]
 |_=>none
def eG:List (List D×AV)→List D→Nat→Option (Nat×AV)
 |[],_,_=>none
 |(k',a)::r,k,i=>match dd k k' with
  |true=>some (i,a)
  |false=>eG r k (i+1)
def aH:List (List D×AV)→List D→Option AV
 |[],_=>none
 |(k',a)::r,k=>match dd k k' with
  |true=>some a
  |false=>aH r k
def bP:List (List D×AV)→List D→AV→List (List D×AV)
 |[],k,v=>[(k,v)]
 |(k',a)::r,k,v=>match dd k k' with
  |true=>(k',v)::r
  |false=>(k',a)::bP r k v
def jU (ti:TI):AV:=bif ti.isAgg then .agg ti.zero else match ti.zero with|a::_=>a|[]=> .any
noncomputable def nW (S:bX) (f:FuncId) (args:List AV) (h:Heap) (K:AV→Heap→Rn→Prop):Prop:=match ju args with
 |some ((id,i,off,m,j),args')=>match look h.objs id with
  |some (.tree t sz fs rows)=>match fs[off]? with
   |some (.list t' sz' fs')=>(Nat.beq m (nl fs)&&Nat.beq j (nl (fs.take off)))=true∧∃row rn,rows[i]? =some row∧row[off]? =some (.list rn)∧
        ∃r h',eu r=true∧S.fix f args' ⟨[(0,.tree t' sz' fs' rn)],1,1⟩ r h'∧∃rn',look h'.objs 0=some (.tree t' sz' fs' rn')∧
         wM (row.set off (.list rn')) fun row'=>cH ⟨re id (.tree t sz fs (rows.set i row')) (k9 [] h.objs),h.nx,h.lo⟩ fun h1=>K r h1 (.tsub [])
   |_=>False
  |_=>False
 |none=>False
noncomputable def oV (p:Option (Nat×Nat)) (lo:Nat) (r:AV) (h1:Heap) (K:AV→Heap→Rn→Prop):Prop:=match p with
 |none=>cH h1 fun h1=>K r h1 (.tsub [])
 |some (a,b)=>(Nat.ble lo a&&Nat.ble lo b&& !(Nat.beq a b)&&Nat.ble (b+1) h1.nx)=true∧cH ⟨FC a b h1.objs,h1.nx,h1.lo⟩ fun h1=>K (AV.map (wn a b) r) h1 (.mv a b)
noncomputable def jY (S:bX) (f:FuncId) (args:List AV) (h:Heap) (K:AV→Heap→Rn→Prop):Prop:=
 (∃r,S.pure f (aV h.objs args) r∧
   match eu r with
   |true=>K r h (.sub [])
   |false=>match pubs (aC args) h.objs with
    |(l,m)=>K r ⟨l,h.nx,h.lo⟩ (.sub m))∨
 (∃r h',(S.fx=false∧S.heap f args h r h')∧K r h' .drop)∨
 (∃r h',(match pubs (aC args) h.objs with|(l,m)=>S.fx=false∧S.heap f (sN m args) ⟨l,h.nx,h.lo⟩ r h')∧K r h' .drop)∨
 (∃r,eu r=true∧S.pure f (aP h.objs args) r∧K r h (.sub []))∨
 (∃r,(∀g,S.pure f (bn h.objs g args) r)∧K r h (.sub []))∨
 (∃r h',ba 0 args=true∧S.heap f args hp0 r h'∧cH (h.join h') fun h1=>K (df h.nx r) h1 (.sub []))∨
 (∃r h',S.heap f (aP h.objs args) hp0 r h'∧(lN h'.objs&&gM r)=true∧cH (h.join h') fun h1=>K (df h.nx r) h1 (.sub []))∨
 (∃ids p r h',iC ids=true∧(match qc ids h with|some hc=>S.fix f (aM (se ids) args) hc r h'|none=>False)∧
   oV p h.lo (AV.map (jC ids h.nx) r) (fP ids h h') K)∨
 nW S f args h K
def AH (k:TK) (h:Heap) (x:AV) (K:AV→Heap→Rn→Prop):Prop:=
 match k,x with
 | .str,.d (.str s)=>K (.d (.int .i64 s.length)) h (.sub [])
 | .slice _,.d (.list s)=>K (.d (.int .i64 s.length)) h (.sub [])
 | .slice _,.nils=>K (.d (.int .i64 0)) h (.sub [])
 | .slice _,.own id=>match look h.objs id with
   |some (.row _ _ rows)=>K (.d (.int .i64 rows.length)) h (.sub [])
   |some (.tree _ _ _ rows)=>K (.d (.int .i64 rows.length)) h (.sub [])
   |_=>False
 | .slice _,.val (.slice _ n _)=>K (.d (.int .i64 n)) h (.sub [])
 |_,_=>False
noncomputable def vy (T:List (Nat×TI)) (h:Heap) (t:TypeId) (s x:AV) (K:AV→Heap→Rn→Prop):Prop:=
 match look T t,x,s with
 |some ti,.d (.list new),.own id=>match ti.kind,look h.objs id with
  | .slice e,some (.row e' sz rows)=>match look T e with
    |some te=>(Nat.beq e e'&&Nat.beq sz te.size&&Nat.beq te.size 1)=true∧new.length=rows.length∧0<new.length∧(∀r∈new,r.length=1)∧
      K (.d (.int .i64 new.length)) (h.set id (.row e sz new)) (.sub [])
    |none=>False
  | .slice e,some (.tree e' sz fs rows)=>match look T e with
    |some te=>(Nat.beq e e'&&Nat.beq sz te.size&&Nat.beq te.size 1&&bR fs)=true∧new.length=rows.length∧0<new.length∧(∀r∈new,gI 1 r)∧
      cH (h.set id (.tree e sz fs new)) fun h1=>K (.d (.int .i64 new.length)) h1 (.sub [])
    |none=>False
  |_,_=>False
 |_,_,_=>False
def w7 (l:List (Nat×AO)):AV→Option (List (List D))
 | .d (.list rows)=>some rows
 | .nils=>some []
 | .own id=>match look l id with
   |some (.row _ _ rows)=>some rows
   |_=>none
 |_=>none
def mJ (te:TI) (l:List (Nat×AO)) (s x:AV):Option (List NT×List (List D)×List Nat×Bool):=match x with
 | .own k=>match look l k with
   |some (.tree _ _ fs' new)=>match s with
    | .own id=>match look l id with
      |some (.tree _ _ fs _)=>bif hU fs fs'&& !(Nat.beq k id) then some (fs,new,[k],false) else none
      |_=>none
    | .nils=>some (fs',new,[k],false)
    |_=>none
   |_=>none
 | .d (.list new)=>match s with
   | .own id=>match look l id with
     |some (.tree _ _ fs _)=>bif bR fs then some (fs,new,[],true) else none
     |_=>none
   | .nils=>match te.nts with
     |[]=>none
     |f::fs=>bif bR (f::fs) then some (f::fs,new,[],true) else none
   |_=>none
 | .nils=>match s with
   | .own id=>match look l id with
     |some (.tree _ _ fs _)=>some (fs,[],[],false)
     |_=>none
   | .nils=>match te.nts with
     |[]=>none
     |f::fs=>some (f::fs,[],[],false)
   |_=>none
 |_=>none
noncomputable def iK (T:List (Nat×TI)) (fx:Bool) (h:Heap) (t t2:TypeId) (s x:AV) (K:AV→Heap→Rn→Prop):Prop:=
 match look T t with
 |some ti=>match ti.kind with
  | .slice e=>match look T e with
    |some te=>match mJ te h.objs s x with
     |some (fs,new,ks,cp)=>(Nat.beq t t2&&Nat.ble te.bytes 131072&&Nat.ble 1 te.size&&Nat.beq fs.length te.size)=true∧(match cp with|true=>∀r∈new,gI te.size r|false=>True)∧match s with
      | .own id=>match look h.objs id with
        |some (.tree e' sz _ rows)=>(Nat.beq e e'&&Nat.beq sz te.size&&(!fx||Nat.ble h.lo id))=true∧rows.length+new.length≤ap∧
            cH ⟨(id,.tree e sz fs (rows++new))::k9 (id::ks) h.objs,h.nx,h.lo⟩ fun h1=>K (.own id) h1 (.tsub (id::ks))
        |_=>False
      | .nils=>new.length≤ap∧cH ⟨(h.nx,.tree e te.size fs new)::k9 ks h.objs,h.nx+1,h.lo⟩ fun h1=>K (.own h.nx) h1 (.tsub ks)
      |_=>False
     |none=>match w7 h.objs x with
      |some new=>(Nat.beq t t2&&Nat.ble te.bytes 131072&&Nat.ble 1 te.size)=true∧(∀r∈new,r.length=te.size)∧match s with
       | .own id=>match look h.objs id with
         |some (.row e' sz rows)=>(Nat.beq e e'&&Nat.beq sz te.size&&(!fx||Nat.ble h.lo id))=true∧rows.length+new.length≤ap∧
            K (.own id) ⟨re id (.row e sz (rows++new)) (tB id .any h.objs),h.nx,h.lo⟩ (.sub [(id,.any)])
         |_=>False
       | .nils=>new.length≤ap∧K (.own h.nx) (h.new (.row e te.size new)) (.sub [])
       |_=>False
      |none=>False
    |none=>False
  |_=>False
 |none=>False
def zO (ρ:Operand→AV) (n:Nat) (hi mx:Option Operand):Prop:=match mx with
 |none=>True
 |some _=>de ρ n mx=some (n:Int)∧hi.isSome=true
noncomputable def jb (T:List (Nat×TI)) (fx:Bool) (ρ:Operand→AV) (h:Heap) (t:TypeId) (id:Nat) (lo hi mx:Option Operand) (K:AV→Heap→Rn→Prop):Prop:=match look T t with
 |some ti=>match ti.kind with
  | .slice e=>match look T e with
    |some te=>(!fx||Nat.ble h.lo id)=true∧match look h.objs id with
     |some (.row e' sz rows)=>Nat.beq sz te.size=true∧de ρ 0 lo=some 0∧de ρ rows.length hi=some (rows.length:Int)∧zO ρ rows.length hi mx∧
       cH ⟨(id,.row e' sz rows)::k9 [id] h.objs,h.nx,h.lo⟩ fun h1=>K (.own id) h1 (.tsub [id])
     |some (.tree e' sz fs rows)=>Nat.beq sz te.size=true∧de ρ 0 lo=some 0∧de ρ rows.length hi=some (rows.length:Int)∧zO ρ rows.length hi mx∧
       cH ⟨(id,.tree e' sz fs rows)::k9 [id] h.objs,h.nx,h.lo⟩ fun h1=>K (.own id) h1 (.tsub [id])
     |_=>False
    |none=>False
  |_=>False
 |none=>False
def mD (T:List (Nat×TI)) (ρ:Operand→AV) (h:Heap) (t:TypeId) (x k v:Operand) (K:AV→Heap→Rn→Prop):Prop:=
 match look T t with
 |some ti=>match ti.kind with
  | .map kt _=>match look T kt,ρ x,uM (ρ k) with
    |some tk,.mapr id,some key=>match look h.objs id with
     |some (.map t' tk' es)=>(Nat.beq t t'&&dc tk.key key&&dc tk'.base key&&(ρ v).one)=true∧K (.val undef) (h.set id (.map t' tk' (bP es key (ρ v)))) (.sub [])
     |_=>False
    |_,_,_=>False
  |_=>False
 |none=>False
def je (T:List (Nat×TI)) (ρ:Operand→AV) (h:Heap) (t:TypeId) (x k:Operand) (K:AV→Heap→Rn→Prop):Prop:=
 match look T t with
 |some ti=>match ti.kind with
  | .map kt vt=>match look T kt,look T vt,ρ x,uM (ρ k) with
    |some tk,some tv,.mapr id,some key=>match look h.objs id with
     |some (.map t' tk' es)=>(Nat.beq t t'&&dc tk.key key&&dc tk'.base key&&(jU tv).one&& !tk'.isDel)=true∧∃r,eG es key 0=r∧match r with
      |some (j,v)=>K (.tup [v,.d (.int .i64 j)]) h (.sub [])
      |none=>K (.tup [jU tv,.d (.int .i64 es.length)]) (h.set id (.map t' tk' (es++[(key,jU tv)]))) (.sub [])
     |_=>False
    |_,_,_,_=>False
  |_=>False
 |none=>False
def gX (ρ:Operand→AV) (h:Heap) (x s v:Operand) (K:AV→Heap→Rn→Prop):Prop:=
 match ρ x,ρ s with
 | .mapr id,.d (.int _ j)=>match look h.objs id with
   |some (.map t' tk' es)=>((ρ v).one&& !tk'.isDel)=true∧0≤j∧∃p,es[j.toNat]? =some p∧K (.val undef) (h.set id (.map t' tk' (es.set j.toNat (p.1,ρ v)))) (.sub [])
   |_=>False
 |_,_=>False
def hH:List (List D×AV)→List D→List (List D×AV)
 |[],_=>[]
 |(k',a)::r,k=>match dd k k' with
  |true=>r
  |false=>(k',a)::hH r k
def uj (T:List (Nat×TI)) (h:Heap) (t:TypeId) (x k:AV) (K:AV→Heap→Rn→Prop):Prop:=match look T t with
 |some ti=>match ti.kind with
  | .map kt _=>match look T kt,x,uM k with
    |some tk,.mapr id,some key=>match look h.objs id with
     |some (.map t' tk' es)=>(Nat.beq t t'&&dc tk.key key&&dc tk'.base key)=true∧K (.val undef) (h.set id (.map t' (.del tk'.base) (hH es key))) (.sub [])
     |_=>False
    |_,_,_=>False
  |_=>False
 |none=>False
def Dd (l:List (Nat×AO)) (id sz i:Nat):Option (List D):=match look l id with
 |some (.row _ sz' rows)=>bif Nat.beq sz sz' then rows[i]? else none
 |_=>none
noncomputable def bh (T:List (Nat×TI)) (S:bX) (ρ:Operand→AV) (h:Heap) (o:Op) (K:AV→Heap→Rn→Prop):Prop:=
 match o with
 | .call c=>match c.callee with
   | .value f=>match ρ f with
     | .fn f caps=>jY S f (c.args.toList.map ρ++caps) h K
     | .d (.fn f)=>jY S f (c.args.toList.map ρ++[]) h K
     | .bfn f first=>jY S f (first++c.args.toList.map ρ) h K
     |_=>False
   | .invoke x name=>match ρ x with
     | .iface t v=>match look T t with
       |some ti=>match ti.kind with
        | .ptr=>False
        |_=>match ti.meths.lookup name with
         |some f=>jY S f (v::c.args.toList.map ρ) h K
         |none=>False
       |none=>False
     |_=>False
   | .builtin .len=>match c.args.toList,c.argTypes.toList with
     |[x],[t]=>match look T t with
      |some ti=>AH ti.kind h (ρ x) K
      |none=>False
     |_,_=>False
   | .builtin .append=>match c.args.toList,c.argTypes.toList with
     |[s,x],[t,t2]=>iK T S.fx h t t2 (ρ s) (ρ x) K
     |_,_=>False
   | .builtin .copy=>match c.args.toList,c.argTypes.toList with
     |[s,x],[t,_]=>vy T h t (ρ s) (ρ x) K
     |_,_=>False
   | .builtin .delete=>match c.args.toList,c.argTypes.toList with
     |[s,x],[t,_]=>uj T h t (ρ s) (ρ x) K
     |_,_=>False
   |_=>False
 | .index t x i=>match look T t with
   |some ti=>match ti.kind,ρ x,ρ i with
    | .str,.d (.str s),.d (.int _ i)=>0≤i∧∃b,s[i.toNat]? =some b∧K (.d (.int .u8 b.toNat)) h (.sub [])
    | .array n e,.agg cs,.d (.int _ i)=>(0≤i∧i<n)∧match look T e with
      |some te=>∃r,jM te (cs.drop (i.toNat*te.size))=some r∧K r h (.sub [])
      |none=>False
    |_,_,_=>False
   |none=>False
 | .indexAddr t x i=>match look T t with
   |some ti=>match ti.kind with
    | .slice e=>match look T e with
      |some te=>Nat.ble 1 te.size=true∧match ρ x,ρ i with
       | .d (.list s),.d (.int _ i)=>0≤i∧∃b,s[i.toNat]? =some b∧b.length=te.size∧K (.at_ b) h (.sub [])
       | .own id,.d (.int _ i)=>match look h.objs id with
         |some (.row _ sz rows)=>Nat.beq sz te.size=true∧0≤i∧i<rows.length∧K (.rptr id i.toNat sz 0) h (.sub [])
         |some (.tree _ sz _ rows)=>Nat.beq sz te.size=true∧0≤i∧i<rows.length∧K (.rptr id i.toNat sz 0) h (.sub [])
         |_=>False
       |_,_=>False
      |none=>False
    |_=>False
   |none=>False
 | .store t a x=>match look T t with
   |some ti=>match cellsOf ti (ρ x),ρ a with
    |some new,.ptr id off=>match look h.objs id with
     |some (.cells t' cs)=>Nat.ble (off+new.length) cs.length=true∧K (.val undef) (h.set id (.cells t' (over cs off new))) (.sub [])
     |_=>False
    |some new,.rptr id i sz' off=>match look h.objs id with
     |some (.tree e sz fs rows)=>match pi h.objs ((fs.drop off).take new.length) new with
      |some (ds,ks)=>(Nat.beq sz' sz&&iC (id::ks))=true∧∃r,rows[i]? =some r∧off+ds.length≤r.length∧
        wM (dP r off ds) fun r'=>K (.val undef) ⟨re id (.tree e sz fs (rows.set i r')) (k9 ks h.objs),h.nx,h.lo⟩ (.tsub ks)
      |none=>False
     |some (.row e sz rows)=>match dsOf (new.map li) with
      |some ds=>Nat.beq sz' sz=true∧∃r,rows[i]? =some r∧off+ds.length≤r.length∧K (.val undef) (h.set id (.row e sz (rows.set i (dP r off ds)))) (.sub [])
      |none=>False
     |_=>False
    |_,_=>False
   |none=>False
 | .makeSlice t len cap=>match look T t with
   |some ti=>match ti.kind with
    | .slice e=>match look T e with
      |some te=>match dsOf te.zero,ρ len,ρ cap with
       |some z,.d (.int .i64 l),.d (.int .i64 c)=>(Nat.ble te.bytes 131072&&Nat.ble 1 te.size&&Nat.beq z.length te.size&&te.fits)=true∧0≤l∧l≤c∧c≤ap∧K (.own h.nx) (h.new (te.obj e (List.replicate l.toNat z))) (.sub [])
       |_,_,_=>False
      |none=>False
    |_=>False
   |none=>False
 | .lookup t x k ok=>match look T t with
   |some ti=>match ti.kind with
    | .map kt vt=>match look T kt,look T vt,ρ x,uM (ρ k) with
      |some tk,some tv,.mapr id,some key=>match look h.objs id with
       |some (.map t' tk' es)=>(Nat.beq t t'&&dc tk.key key&&dc tk'.base key)=true∧∃r,aH es key=r∧match r with
        |some v=>K (match ok with|true=> .tup [v,.val (.bool true)]|false=>v) h (.sub [])
        |none=>K (match ok with|true=> .tup [jU tv,.val (.bool false)]|false=>jU tv) h (.sub [])
       |_=>False
      |_,_,_,_=>False
    |_=>False
   |none=>False
 | .load t a=>match ρ a with
   | .rptr id i sz off=>match look h.objs id with
     |some (.tree _ sz' fs rows)=>Nat.beq sz sz'=true∧∃r,rows[i]? =some r∧match look T t with
      |some ti=>match jM ti ((eY id i (nl fs) fs r 0 0).drop off) with
       |some v=>K v h (.sub [])
       |none=>False
      |none=>False
     |_=>∃r,Dd h.objs id sz i=some r∧match look T t with
      |some ti=>match py ti (r.drop off) with
       |some v=>K v h (.sub [])
       |none=>False
      |none=>False
   |_=>match bq T ρ h (.load t a) with
    |some (r,h',m)=>K r h' m
    |none=>False
 | .slice t x lo hi mx=>match ρ x with
   | .own id=>jb T S.fx ρ h t id lo hi mx K
   |_=>iv T ρ h (.slice t x lo hi mx) K
 | .mapUpdate t x k v=>mD T ρ h t x k v K
 | .insert t x k v=>mD T ρ h t x k v K
 | .mapEntry t x k=>je T ρ h t x k K
 | .entryStore _ x s v=>gX ρ h x s v K
 |o=>iv T ρ h o K
theorem zS {T:List (Nat×TI)} {S:bX} {ρ:Operand→AV} {h:Heap} {t:TypeId} {a:Operand} {K:AV→Heap→Rn→Prop} (hv:bh T S ρ h (.load t a) K):
 (match bq T ρ h (.load t a) with|some (r,h',m)=>K r h' m|none=>False)∨
 ∃id i sz off t' fs rows r ti v,ρ a= .rptr id i sz off∧look h.objs id=some (.tree t' sz fs rows)∧rows[i]? =some r∧look T t=some ti∧jM ti ((eY id i (nl fs) fs r 0 0).drop off)=some v∧K v h (.sub []):=by
 simp only[bh] at hv
 split at hv
 ·rename_i id i sz off e
  split at hv
  ·rename_i t' sz' fs rows hid
   obtain ⟨hb,r,hr,hv⟩:=hv
   have hb:=Nat.eq_of_beq_eq_true hb
   subst hb
   split at hv
   ·rename_i ti hti
    split at hv
    ·rename_i v hl
     exact .inr ⟨id,i,sz,off,t',fs,rows,r,ti,v,e,hid,hr,hti,hl,hv⟩
    ·exact hv.elim
   ·exact hv.elim
  ·left
   obtain ⟨r,hr,hv⟩:=hv
   simp only[bq,e]
   simp only[Dd] at hr
   cases hti:look T t with
   |none=>rw[hti] at hv;exact hv.elim
   |some ti=>
    rw[hti] at hv
    cases ho:look h.objs id with
    |none=>rw[ho] at hr;cases hr
    |some o=>
     rw[ho] at hr
     cases o with
     |row t' sz' rows=>
      simp only at hr ⊢
      cases hb:Nat.beq sz sz' with
      |false=>rw[hb] at hr;cases hr
      |true=>
       rw[hb] at hr
       simp only[cond_true] at hr ⊢
       rw[hr]
       simp only at hv ⊢
       cases hl:py ti (r.drop off) with
       |none=>rw[hl] at hv;exact hv.elim
       |some v=>rw[hl] at hv;simpa using hv
     |tree t' sz' fs rows=>cases hr
     |cells _ _=>cases hr
     |map _ _ _=>cases hr
 ·exact .inl hv
noncomputable def l8 (σ:Env) (m:Rn) (n:Nat) (d:Option Nat) (r:AV) (K:Env→Prop):Prop:=match m with
 | .sub []=>match d with
   |none=>K σ
   |some k=>match Nat.ble (k+1) n with
    |true=>fQ r fun r=>K (σ.put k r)
    |false=>K σ
 | .sub ((i,b)::l)=>fQ r fun r=>K ((σ.ren (.sub ((i,b)::l))).putO n d r)
 | .drop=>fQ r fun r=>K ((σ.ren .drop).putO n d r)
 | .tsub ks=>fQ r fun r=>K ((σ.ren (.tsub ks)).putO n d r)
 | .mv a b=>fQ r fun r=>K ((σ.ren (.mv a b)).putO n d r)
theorem putK_iff {σ:Env} {m:Rn} {n:Nat} {d:Option Nat} {r:AV} {K:Env→Prop}:l8 σ m n d r K↔K ((σ.ren m).putO n d r):=by
 unfold l8
 split
 ·cases d with
  |none=>exact Iff.rfl
  |some k=>
   simp only[Env.ren,Env.subs,Env.putO]
   cases Nat.ble (k+1) n
   ·exact Iff.rfl
   ·exact forceV_iff
 ·exact forceV_iff
 ·exact forceV_iff
 ·exact forceV_iff
 ·exact forceV_iff
noncomputable def sj (o:Op) (h:Heap) (K:Heap→Prop):Prop:=match o with
 | .store _ _ _=>cH h K
 | .box _ _=>cH h K
 | .alloc _=>cH h K
 | .makeMap _ _=>cH h K
 | .makeSlice _ _ _=>cH h K
 | .buildSlice _ _ _=>cH h K
 | .mapUpdate _ _ _ _=>cH h K
 | .insert _ _ _ _=>cH h K
 | .mapEntry _ _ _=>cH h K
 | .entryStore _ _ _ _=>cH h K
 | .call _=>cH h K
 |_=>K h
theorem heapK_iff {o:Op} {h:Heap} {K:Heap→Prop}:sj o h K↔K h:=by
 unfold sj
 split<;>first|exact Iff.rfl|exact forceH_iff
def br:Bool→Bool→Prop→Prop→Prop
 |true,b,A,B=>(b=true→A)∧(b=false→B)
 |false,b,A,B=>(b=false→A)∧(b=true→B)
noncomputable def kK (T:List (Nat×TI)) (S:bX) (n:Nat) (ops:Array Oper) (o:Oper) (ih:Env→Heap→(Env→Heap→Prop)→Prop) (σ:Env) (h:Heap) (K:Env→Heap→Prop):Prop:=
 match o.guard with
 |none=>bh T S (ev σ) h o.op fun r h' m=>l8 σ m n o.dst r fun σ'=>sj o.op h' fun h''=>ih σ' h'' K
 |some (g,want)=>match (ops[g]?).bind (·.dst) with
  |none=>False
  |some gd=>match σ gd with
   | .d (.bool b)=>
     br want b (bh T S (ev (σ.put gd (.val (.bool want)))) h o.op fun r h' m=>l8 (σ.put gd (.val (.bool want))) m n o.dst r fun σ'=>sj o.op h' fun h''=>ih σ' h'' K)
        (ih ((σ.put gd (.val (.bool (!want)))).putO n o.dst (.val undef)) h K)
   | .val (.bool b)=>match b==want with
     |true=>bh T S (ev σ) h o.op fun r h' m=>l8 σ m n o.dst r fun σ'=>sj o.op h' fun h''=>ih σ' h'' K
     |false=>ih (σ.putO n o.dst (.val undef)) h K
   | .val (.tuple _)=>ih (σ.putO n o.dst (.val undef)) h K
   |_=>False
noncomputable def gW (T:List (Nat×TI)) (S:bX) (n:Nat) (ops:Array Oper) (l:List Oper):Env→Heap→(Env→Heap→Prop)→Prop:=
 List.rec (motive:=fun _=>Env→Heap→(Env→Heap→Prop)→Prop) (fun σ h K=>K σ h) (fun o _ ih=>kK T S n ops o ih) l
theorem qu {T:List (Nat×TI)} {S:bX} {n:Nat} {ops:Array Oper} {o:Oper} {l:List Oper} {σ:Env} {h:Heap} {K:Env→Heap→Prop}:gW T S n ops (o::l) σ h K=kK T S n ops o (gW T S n ops l) σ h K:=rfl
def tI:Option Nat→List (Nat×Bool)→List (Nat×Bool)
 |none,l=>l
 |some d,l=>del d l
noncomputable def lL (T:List (Nat×TI)) (S:bX) (n:Nat) (ops:Array Oper) (o:Oper) (ih:List (Nat×Bool)→Env→Heap→(Env→Prop)→Prop) (dec:List (Nat×Bool)) (σ:Env) (h:Heap) (K:Env→Prop):Prop:=
 match o.guard with
 |none=>bh T S (ev σ) h o.op fun r h' m=>h'=h∧m= .sub []∧l8 σ (.sub []) n o.dst r fun σ'=>ih (tI o.dst dec) σ' h K
 |some (g,want)=>match (ops[g]?).bind (·.dst) with
  |none=>False
  |some gd=>match look dec gd with
   |some b=>match b==want with
    |true=>bh T S (ev σ) h o.op fun r h' m=>h'=h∧m= .sub []∧l8 σ (.sub []) n o.dst r fun σ'=>ih (tI o.dst dec) σ' h K
    |false=>ih (tI o.dst dec) (σ.putO n o.dst (.val undef)) h K
   |none=>match σ gd with
    | .d (.bool b)=>
      br want b (bh T S (ev (σ.put gd (.d (.bool want)))) h o.op fun r h' m=>h'=h∧m= .sub []∧l8 (σ.put gd (.d (.bool want))) (.sub []) n o.dst r fun σ'=>ih (tI o.dst ((gd,want)::dec)) σ' h K)
         (ih (tI o.dst ((gd,!want)::dec)) ((σ.put gd (.d (.bool (!want)))).putO n o.dst (.val undef)) h K)
    | .val (.bool b)=>match b==want with
      |true=>bh T S (ev σ) h o.op fun r h' m=>h'=h∧m= .sub []∧l8 σ (.sub []) n o.dst r fun σ'=>ih (tI o.dst dec) σ' h K
      |false=>ih (tI o.dst dec) (σ.putO n o.dst (.val undef)) h K
    | .val (.tuple _)=>ih (tI o.dst dec) (σ.putO n o.dst (.val undef)) h K
    |_=>False
noncomputable def fC (T:List (Nat×TI)) (S:bX) (n:Nat) (ops:Array Oper) (l:List Oper):List (Nat×Bool)→Env→Heap→(Env→Prop)→Prop:=
 List.rec (motive:=fun _=>List (Nat×Bool)→Env→Heap→(Env→Prop)→Prop) (fun _ σ _ K=>K σ) (fun o _ ih=>lL T S n ops o ih) l
theorem vv {T:List (Nat×TI)} {S:bX} {n:Nat} {ops:Array Oper} {o:Oper} {l:List Oper} {dec:List (Nat×Bool)} {σ:Env} {h:Heap} {K:Env→Prop}:fC T S n ops (o::l) dec σ h K=lL T S n ops o (fC T S n ops l) dec σ h K:=rfl
def GP (nx:Nat):List (Nat×AV)→Env→Prop
 |[],_=>True
 |(k,v)::l,σ=>(match v with
  | .d (.bool _)=>li (σ k)=v
  | .own id=>match Nat.ble nx id with
    |true=>σ k= .nils
    |false=>σ k=v
  |v=>σ k=v)∧GP nx l σ
def FG (n:Nat):List (Nat×AV)→Bool
 |[]=>true
 |(_,v)::l=>v.lt n&&FG n l
def Gm (nx:Nat):List AV→List AV→Prop
 |[],[]=>True
 |c::cs,c'::cs'=>(match c with
  | .own id=>(match Nat.ble nx id with
    |true=>c'= .nils
    |false=>c'= .own id)
  |c=>c'=c)∧Gm nx cs cs'
 |_,_=>False
def Ai (nx:Nat):List AV→Bool
 |[]=>false
 | .own id::cs=>Nat.ble nx id||Ai nx cs
 |_::cs=>Ai nx cs
def Gl (nx:Nat):List (Nat×AO)→List (Nat×AO)→Prop
 |[],_=>True
 |(k,o)::l,l'=>(match Nat.ble nx k with
  |true=>(match o with| .tree _ sz fs []=>Nat.ble 1 sz&&Nat.beq fs.length sz| .row _ sz []=>Nat.ble 1 sz|_=>false)=true
  |false=>match o with
   | .map t (.del tk) es=>(match look l' k with|some (.map t' tk' es')=>t'=t∧tk'.base=tk∧es'=es|_=>False)
   | .cells t cs=>(match Ai nx cs with
     |true=>(match look l' k with|some (.cells t' cs')=>t'=t∧Gm nx cs cs'|_=>False)
     |false=>look l' k=some (.cells t cs))
   |o=>look l' k=some o)∧Gl nx l l'
def CL (n:Nat):List (Nat×AO)→Prop
 |[]=>True
 |(k,.cells _ cs)::l=>(Nat.ble (k+1) n&&ba n cs)=true∧CL n l
 |(k,.row _ _ _)::l=>Nat.ble (k+1) n=true∧CL n l
 |(k,.tree _ _ _ _)::l=>Nat.ble (k+1) n=true∧CL n l
 |(k,.map _ _ es)::l=>(Nat.ble (k+1) n=true∧ER n es)∧CL n l
def jJ (σ:Env) (h:Heap) (l:List (Nat×AV)) (h':Heap):Prop:=
 (Nat.beq h'.lo h.lo&&Nat.ble h'.lo h'.nx)=true∧FG h'.nx l=true∧GP h.nx l σ∧CL h'.nx h'.objs∧Gl h.nx h'.objs h.objs
abbrev AE:=Env→Heap→(Exit→Env→Heap→Prop)→Prop
def Gc (b:AE) (Q:Exit→Env→Heap→Prop) (e:Exit) (σ:Env) (h:Heap):Prop:=match e with
 | .normal=>b σ h Q
 |e=>Q e σ h
def o8 (id:Nat) (Q:Exit→Env→Heap→Prop) (e:Exit) (σ:Env) (h:Heap):Prop:=match e with
 | .exit id'=>bif Nat.beq id' id then Q .normal σ h else Q (.exit id') σ h
 |e=>Q e σ h
def C5 (Q:Exit→Env→Heap→Prop):Exit→Env→Heap→Prop
 | .goto _,_,_=>False
 |e,σ,h=>Q e σ h
def v9 (I:Nat→List (Nat×AV)→Heap→Prop) (k:Nat) (Q:Exit→Env→Heap→Prop) (e:Exit) (σ:Env) (h:Heap):Prop:=match e with
 | .normal=>∃k' l' h'',I k' l' h''∧k'<k∧jJ σ h l' h''
 |e=>Q e σ h
def nX (c:Operand) (t e:AE) (σ:Env) (h:Heap) (Q:Exit→Env→Heap→Prop):Prop:=match ev σ c with
 | .d (.bool b)=>(b=true→t σ h Q)∧(b=false→e σ h Q)
 | .val (.bool b)=>match b with
   |true=>t σ h Q
   |false=>e σ h Q
 |_=>False
def qx (c:AE) (σ:Env) (h:Heap) (Q:Exit→Env→Heap→Prop):Prop:=
 ∃I:Nat→List (Nat×AV)→Heap→Prop,(∃k l h',I k l h'∧jJ σ h l h')∧∀k l h1,I k l h1→c (Env.of l) h1 (v9 I k Q)
def i6 (n:Nat):List Nat→List AV→Env→Env
 |p::ps,v::vs,σ=>i6 n ps vs (σ.putO n (some p) v)
 |_,_,σ=>σ
def da (l:List (Nat×AO)):Nat→Bool
 |0=>true
 |k+1=>(match look l k with|some (.cells _ _)=>true|_=>false)&&da l k
def thinC:List AV→List AV→Prop
 |[],y=>y=[]
 | .d (.list rows)::as,y=>∃A c ys,y= .d (.raw (.slice A rows.length c))::ys∧thinC as ys
 | .d x::as,y=>∃ys,y= .d x::ys∧thinC as ys
 | .nils::as,y=>∃ys,y= .nils::ys∧thinC as ys
 | .val v::as,y=>∃ys,y= .val v::ys∧thinC as ys
 |_::as,y=>∃ys,y= .any::ys∧thinC as ys
def thinL:List AV→List AV→Prop
 |[],y=>y=[]
 | .agg cs::as,y=>∃cs' ys,y= .agg cs'::ys∧thinC cs cs'∧thinL as ys
 |a::as,y=>∃y0 ys,y=y0++ys∧thinC [a] y0∧thinL as ys
def He (h:Heap) (nx:Nat) (x:AV):AV→Prop
 | .d (.bool b)=>li x= .d (.bool b)
 | .at_ ds=>x= .at_ ds∨∃id off t cs,x= .ptr id off∧nx≤id∧look h.objs id=some (.cells t cs)∧dsOf (cs.drop off)=some ds∧(match ds with|[]=>false|_=>true)=true
 |v=>x=v
def GQ (h:Heap) (nx:Nat):List (Nat×AV)→Env→Prop
 |[],_=>True
 |(k,v)::l,σ=>He h nx (σ k) v∧GQ h nx l σ
def Fk (σ:Env) (h:Heap) (l:List (Nat×AV)) (h':Heap):Prop:=
 (Nat.ble h'.nx h.nx&&Nat.beq h'.lo h.lo&&Nat.ble h'.lo h'.nx)=true∧FG h'.nx l=true∧GQ h h'.nx l σ∧CL h'.nx h'.objs∧Gl h.nx h'.objs h.objs
def Dh (Gd:Prop) (h0:Heap) (Q:Exit→Env→Heap→Prop) (σn:Env):Exit→Env→Heap→Prop
 | .normal,σ,h=>Gd∧jJ σ h [] ⟨h0.objs,h0.nx,h0.nx⟩
 | .ret,_,h=>(da h.objs h.nx&&Nat.ble h0.lo h.nx)=true∧Q .ret σn ⟨h.objs,h.nx,h0.lo⟩
 | .exit id,_,h=>(da h.objs h.nx&&Nat.ble h0.lo h.nx)=true∧Q (.exit id) σn ⟨h.objs,h.nx,h0.lo⟩
 |_,_,_=>False
def E9 (h0:Heap) (body:AE) (R:Exit→Env→Heap→Prop):Exit→Env→Heap→Prop
 | .normal,σ,h=>∃l,Fk σ h l ⟨h0.objs,h0.nx,h0.nx⟩∧body (Env.of l) ⟨h0.objs,h0.nx,h0.nx⟩ R
 |_,_,_=>False
def mC (S:bX) (n:Nat) (g:Operand) (ps:Array Nat) (assign body:AE) (σ:Env) (h:Heap) (Q:Exit→Env→Heap→Prop):Prop:=match ev σ g with
 | .fn f caps=>(!S.fx&&da h.objs h.nx)=true∧∃(xs:List (List AV→Prop)) (Gd:Nat→Prop),S.iter f caps h xs∧(∀X∈xs,∀x,X x→x.length=ps.size)∧
    (∀i X,xs[i]? =some X→∀x,X x→assign (i6 n ps.toList x (Env.ren .drop σ)) ⟨h.objs,h.nx,h.nx⟩ (E9 h body (Dh (Gd i) h Q (Env.ren .drop σ))))∧
    ((∀i,i<xs.length→Gd i)→Q .normal (Env.ren .drop σ) h)
 |_=>False
def E3:Op→Bool
 | .store _ _ _| .mapUpdate _ _ _ _| .entryStore _ _ _ _=>true
 |_=>false
noncomputable def gO (l:List Oper):Option (List Oper×Oper):=
 List.rec (motive:=fun _=>Option (List Oper×Oper)) none (fun o _ ih=>match ih with|none=>some ([],o)|some (i,z)=>some (o::i,z)) l
def nL (l:List Edge):Nat→Bool
 |0=>true
 |k+1=>l.any (fun e=>Region.binds .any e&&Nat.beq e.on k)&&nL l k
def nM (ops:Array Oper) (z:Nat):Bool:=
 (List.range z).all fun j=>(List.range (z+1)).any fun k=>Nat.ble (j+1) k&&(match ops[k]? with|some o=>o.after.toList.any (fun e=>Region.binds .any e&&Nat.beq e.on j)|none=>false)
def o6:Nat→List Oper→Bool
 |_,[]=>true
 |z,o::t=>(o.guard.isNone&&o.after.toList.any (fun e=>Region.binds .any e&&Nat.beq e.on z))&&o6 (z+1) t
noncomputable def kM (l:List Oper):Option (List Oper×Oper×List Oper):=
 List.rec (motive:=fun _=>Option (List Oper×Oper×List Oper)) none (fun o l ih=>match ih with
  |some (i,z,t)=>some (o::i,z,t)
  |none=>match o.op with
   | .call _=>some ([],o,l)
   |_=>none) l
def dC (ops:Array Oper) (i:Nat):List Nat:=match ops[i]? with
 |some o=>(o.after.toList.filter (Region.binds .any)).map (·.on)
 |none=>[]
def ed (ops:Array Oper):Nat→Nat→List Nat
 |0,_=>[]
 |k+1,i=>dC ops i++(dC ops i).flatMap (ed ops k)
def zX (i:Nat) (l:List Nat):Bool:=l.any (Nat.beq i)
inductive Pln where
 |fin (ls rs:List Nat)
 |one (ls rs:List Nat) (z:Nat) (t:Pln)
 |two (ls rs:List Nat) (z:Nat) (t:Pln) (z':Nat) (t':Pln)
def eI (ops:Array Oper) (i:Nat):Option Nat:=(ops[i]?).bind (·.dst)
def jy (ops:Array Oper) (i:Nat):List Nat:=match ops[i]? with|some o=>o.looksAt ops|none=>[]
def AB:List Nat→Bool
 |i::j::l=>Nat.ble (i+1) j&&AB (j::l)
 |_=>true
def Ek (ops:Array Oper) (n b i:Nat):Bool:=
 (match ops[i]? with|some o=>o.guard.isNone&&(match o.dst with|some d=>Nat.ble (d+1) n|none=>true)|none=>false)&&
 (dC ops i).all (fun j=>Nat.ble (j+1) i)&&
 (List.range b).all (fun j=>(match eI ops j with
   |some d=> !(zX d (jy ops i))||zX j (dC ops i)
   |none=>true)&&(Nat.beq i j||(match eI ops i,eI ops j with|some d,some e=> !(Nat.beq d e)|_,_=>true)))
def bO (l m:List Nat):List Nat:=l.filter fun i=> !(zX i m)
def C0 (ops:Array Oper) (ls rs rest old dn hs:List Nat):Bool:=
 AB ls&&ls.all (fun i=>zX i rest&&(eI ops i).isSome)&&old.all (fun i=>zX i rs||zX i dn)&&rs.all (fun i=>zX i old&&ls.all (fun j=> !(zX j (dC ops i))))&&
 (bO rest ls).all (fun i=>zX i hs||(dC ops i).any (fun j=>zX j (bO rest ls)))
def gA (ops:Array Oper) (b:Nat):Pln→List Nat→List Nat→List Nat→Bool
 | .fin ls rs,rest,old,dn=>C0 ops ls rs rest old dn []&&(bO rest ls).isEmpty
 | .one ls rs z t,rest,old,dn=>C0 ops ls rs rest old dn [z]&&zX z (bO rest ls)&&gA ops b t (bO (bO rest ls) [z]) (old++ls) (dn++ed ops b z)
 | .two ls rs z t z' t',rest,old,dn=>C0 ops ls rs rest old dn [z,z']&&zX z (bO rest ls)&&zX z' (bO rest ls)&&
   gA ops b t (bO (bO rest ls) [z]) (old++ls) (dn++ed ops b z)&&gA ops b t' (bO (bO rest ls) [z']) (old++ls) (dn++ed ops b z')
def wg (ops:Array Oper) (n b:Nat) (p:Pln):Bool:=
 (List.range b).all (Ek ops n b)&&gA ops b p (List.range b) [] []&&
 (match ops.toList.drop b with|z::t=>nM ops b&&z.guard.isNone&&o6 b t|[]=>false)
noncomputable def BI (T:List (Nat×TI)) (S:bX) (n:Nat) (ops:Array Oper) (l:List Nat):Env→Heap→(Env→Prop)→Prop:=
 List.rec (motive:=fun _=>Env→Heap→(Env→Prop)→Prop) (fun σ _ K=>K σ) (fun i _ ih σ h K=>match ops[i]? with
  |some o=>bh T S (ev σ) h o.op fun r h' m=>h'=h∧m= .sub []∧l8 σ (.sub []) n o.dst r fun σ'=>ih σ' h K
  |none=>False) l
noncomputable def BG (T:List (Nat×TI)) (S:bX) (ops:Array Oper) (l:List Nat):Env→Heap→Prop→Prop:=
 List.rec (motive:=fun _=>Env→Heap→Prop→Prop) (fun _ _ K=>K) (fun i _ ih σ h K=>match ops[i]? with
  |some o=>match o.dst with
   |some d=>bh T S (ev σ) h o.op fun r h' m=>h'=h∧m= .sub []∧fQ r fun r=>fQ (σ d) fun v=>r=v∧ih σ h K
   |none=>False
  |none=>False) l
noncomputable def xm (T:List (Nat×TI)) (S:bX) (n:Nat) (ops:Array Oper) (z:Nat) (σ:Env) (h:Heap) (K:Env→Heap→Prop):Prop:=match ops[z]? with
 |some o=>bh T S (ev σ) h o.op fun r h' m=>l8 σ m n o.dst r fun σ2=>sj o.op h' fun h2=>K σ2 h2
 |none=>False
noncomputable def zc (T:List (Nat×TI)) (S:bX) (n:Nat) (ops:Array Oper) (p:Pln):Env→Heap→(Env→Heap→Prop)→Prop:=
 Pln.rec (motive:=fun _=>Env→Heap→(Env→Heap→Prop)→Prop)
  (fun ls rs σ h K=>BG T S ops rs σ h (BI T S n ops ls σ h fun σ1=>K σ1 h))
  (fun ls rs z _ ih σ h K=>BG T S ops rs σ h (BI T S n ops ls σ h fun σ1=>xm T S n ops z σ1 h fun σ2 h2=>ih σ2 h2 K))
  (fun ls rs z _ z' _ ih ih' σ h K=>BG T S ops rs σ h (BI T S n ops ls σ h fun σ1=>xm T S n ops z σ1 h (fun σ2 h2=>ih σ2 h2 K)∧xm T S n ops z' σ1 h (fun σ2 h2=>ih' σ2 h2 K))) p
noncomputable def CQ (T:List (Nat×TI)) (S:bX) (n:Nat) (ops:Array Oper) (σ:Env) (h:Heap) (Q:Exit→Env→Heap→Prop):Prop:=match gO ops.toList with
 |some (i,z)=>match E3 z.op with
  |true=>((nL z.after.toList i.length||nM ops i.length)&&z.guard.isNone)=true∧fC T S n ops i [] σ h (fun σ'=>gW T S n ops [z] σ' h (Q .normal))
  |false=>match kM ops.toList with
   |some (i,z,t)=>match nM ops i.length&&(z.guard.isNone&&o6 i.length t) with
    |true=>fC T S n ops i [] σ h (fun σ'=>gW T S n ops (z::t) σ' h (Q .normal))
    |false=>fC T S n ops ops.toList [] σ h (fun σ'=>Q .normal σ' h)
   |none=>fC T S n ops ops.toList [] σ h (fun σ'=>Q .normal σ' h)
 |none=>fC T S n ops ops.toList [] σ h (fun σ'=>Q .normal σ' h)
noncomputable def iJ (T:List (Nat×TI)) (S:bX) (n:Nat) (ops:Array Oper) (draw:Bool) (σ:Env) (h:Heap) (Q:Exit→Env→Heap→Prop):Prop:=match draw with
 |false=>gW T S n ops ops.toList σ h (Q .normal)
 |true=>Region.lexB .any ops=true∧(CQ T S n ops σ h Q∨∃b p,wg ops n b p=true∧zc T S n ops p σ h (fun σ' h'=>gW T S n ops (ops.toList.drop b) σ' h' (Q .normal)))
noncomputable def uk (T:List (Nat×TI)) (S:bX) (n:Nat) (c:Code):Bool→AE:=
 Code.rec (motive:=fun _=>Bool→AE) (skip:=fun _ σ h Q=>Q .normal σ h) (region:=fun _ ops draw _=>iJ T S n ops draw)
  (seq:=fun _ _ iha ihb rd σ h Q=>iha rd σ h (Gc (ihb rd) Q)) (cond:=fun c _ _ t e rd=>nX c (t rd) (e rd))
  (block:=fun id _ ih rd σ h Q=>ih rd σ h (o8 id Q)) (loop:=fun _ ih rd=>qx (ih rd))
  (rangeFunc:=fun g ps _ _ iha ihb rd=>match rd with|false=>mC S n g ps (iha true) (ihb true)|true=>fun _ _ _=>False)
  (exit:=fun id _ σ h Q=>Q (.exit id) σ h) (scope:=fun _ ih rd σ h Q=>ih rd σ h (C5 Q)) (label:=fun _ _ σ h Q=>Q .normal σ h) (goto:=fun _ _ _ _ _=>False)
  (ret:=fun _ σ h Q=>Q .ret σ h) (refuse:=fun _ _ _ _ _=>False) c
noncomputable abbrev vc (T:List (Nat×TI)) (S:bX) (n:Nat) (c:Code):AE:=uk T S n c false
end Go.Vc
end
section
namespace Go.Vc
def fe (s:Bs):ByteArray:=⟨s.toArray⟩
def Placed (w:World) (N:Nat→Prop) (A:Option Addr) (cells:List Value):Prop:=
 cells=[]∨∃b o,A=some ⟨b,o,none⟩∧¬N b∧∀(j:Nat) (v:Value),cells[j]? =some v→w.cell? ⟨b,o+j,none⟩=some v
inductive Rd (w:World) (N:Nat→Prop):List D→List Value→Prop
 |nil:Rd w N [] []
 |int {ds cs} (k:IntKind) (n:Int):Rd w N ds cs→Rd w N (.int k n::ds) (.int k n::cs)
 |bool {ds cs} (b:Bool):Rd w N ds cs→Rd w N (.bool b::ds) (.bool b::cs)
 |str {ds cs} (s:Bs):s.length≤ap→Rd w N ds cs→Rd w N (.str s::ds) (.string (fe s)::cs)
 |fn {ds cs} (f:FuncId):Rd w N ds cs→Rd w N (.fn f::ds) (.func (.func f) #[] #[]::cs)
 |raw {ds cs} (v:Value):v.oneCell'=true→Rd w N ds cs→Rd w N (.raw v::ds) (v::cs)
 |list {ds cs} (rows:List (List D)) (A:Option Addr) (cap sz:Nat) (cells:List Value):Rd w N rows.flatten cells→(∀r∈rows,r.length=sz)→Placed w N A cells→
   rows.length≤cap→rows.length≤ap→Rd w N ds cs→Rd w N (.list rows::ds) (.slice A rows.length cap::cs)
theorem Rd.length {w:World} {N:Nat→Prop} {ds:List D} {cs:List Value} (h:Rd w N ds cs):cs.length=ds.length:=by
 induction h<;>simp_all
theorem Rd.one {w:World} {N:Nat→Prop} {ds:List D} {cs:List Value} (h:Rd w N ds cs):∀v∈cs,v.oneCell'=true:=by
 induction h<;>simp_all [Value.oneCell']
theorem Rd.append {w:World} {N:Nat→Prop} {ds es:List D} {cs fs:List Value} (h:Rd w N ds cs) (k:Rd w N es fs):Rd w N (ds++es) (cs++fs):=by
 induction h with
 |nil=>exact k
 |int a b _ ih=>exact .int a b ih
 |bool b _ ih=>exact .bool b ih
 |str s hs _ ih=>exact .str s hs ih
 |fn f _ ih=>exact .fn f ih
 |raw v hv _ ih=>exact .raw v hv ih
 |list rows A cap sz cells h1 h2 h3 h4 h5 _ _ ih=>exact .list rows A cap sz cells h1 h2 h3 h4 h5 ih
theorem Rd.split {w:World} {N:Nat→Prop}:∀{ds es:List D} {cs:List Value},Rd w N (ds++es) cs→∃c1 c2,cs=c1++c2∧Rd w N ds c1∧Rd w N es c2
 |[],_,cs,h=>⟨[],cs,rfl,.nil,h⟩
 |d::ds,es,_,h=>by
  cases h with
  |int k n h=>obtain ⟨c1,c2,rfl,h1,h2⟩:=Rd.split h;exact ⟨_::c1,c2,rfl,.int k n h1,h2⟩
  |bool b h=>obtain ⟨c1,c2,rfl,h1,h2⟩:=Rd.split h;exact ⟨_::c1,c2,rfl,.bool b h1,h2⟩
  |str s hs h=>obtain ⟨c1,c2,rfl,h1,h2⟩:=Rd.split h;exact ⟨_::c1,c2,rfl,.str s hs h1,h2⟩
  |fn f h=>obtain ⟨c1,c2,rfl,h1,h2⟩:=Rd.split h;exact ⟨_::c1,c2,rfl,.fn f h1,h2⟩
  |raw v hv h=>obtain ⟨c1,c2,rfl,h1,h2⟩:=Rd.split h;exact ⟨_::c1,c2,rfl,.raw v hv h1,h2⟩
  |list rows A cap sz cells h1 h2 h3 h4 h5 h=>obtain ⟨c1,c2,rfl,k1,k2⟩:=Rd.split h;exact ⟨_::c1,c2,rfl,.list rows A cap sz cells h1 h2 h3 h4 h5 k1,k2⟩
theorem Rd.drop {w:World} {N:Nat→Prop} {ds:List D} {cs:List Value} (h:Rd w N ds cs) (k:Nat):Rd w N (ds.drop k) (cs.drop k):=by
 have h':=h
 have g:Rd w N (ds.take k++ds.drop k) cs:=by rw[List.take_append_drop];exact h
 obtain ⟨c1,c2,rfl,h1,h2⟩:=Rd.split g
 by_cases hk:k≤ds.length
 ·have:=h1.length
  rw[List.length_take,Nat.min_eq_left hk] at this
  have e:(c1++c2).drop k=c2:=by rw[←this];exact List.drop_left
  rw[e]
  exact h2
 ·have:=h'.length
  rw[List.drop_of_length_le (l:=ds) (by omega),List.drop_of_length_le (l:=c1++c2) (by omega)]
  exact .nil
theorem Rd.take {w:World} {N:Nat→Prop} {ds:List D} {cs:List Value} (h:Rd w N ds cs) (k:Nat):Rd w N (ds.take k) (cs.take k):=by
 have h':=h
 have g:Rd w N (ds.take k++ds.drop k) cs:=by rw[List.take_append_drop];exact h
 obtain ⟨c1,c2,rfl,h1,h2⟩:=Rd.split g
 by_cases hk:k≤ds.length
 ·have:=h1.length
  rw[List.length_take,Nat.min_eq_left hk] at this
  have e:(c1++c2).take k=c1:=by rw[←this];exact List.take_left
  rw[e]
  exact h1
 ·have:=h'.length
  rw[List.take_of_length_le (l:=ds) (by omega),List.take_of_length_le (l:=c1++c2) (by omega)]
  exact h'
theorem gy {a b:Nat} (h:a≠b):Nat.beq a b=false:=by
 cases e:Nat.beq a b with
 |false=>rfl
 |true=>exact absurd (Nat.eq_of_beq_eq_true e) h
theorem iq (a:Nat):Nat.beq a a=true:=Nat.beq_refl a
theorem cell?_lt {w:World} {a:Addr} {v:Value} (h:w.cell? a=some v):a.block<w.heap.size:=by
 unfold World.cell? at h
 rcases Nat.lt_or_ge a.block w.heap.size with g|g
 ·exact g
 ·rw[Array.getElem?_eq_none g] at h
  cases h
structure Mv (w:World) (N:Nat→Prop) (w':World) (N':Nat→Prop):Prop where
 size:w.heap.size≤w'.heap.size
 blk:∀b,b<w.heap.size→¬N b→¬N' b∧w'.heap[b]? =w.heap[b]?
theorem Mv.refl (w:World) (N:Nat→Prop):Mv w N w N:=⟨Nat.le_refl _,fun _ _ h=>⟨h,rfl⟩⟩
theorem Placed.mv {w w':World} {N N':Nat→Prop} (m:Mv w N w' N') {A:Option Addr} {cells:List Value} (h:Placed w N A cells):Placed w' N' A cells:=by
 rcases h with h|⟨b,o,rfl,hb,hc⟩
 ·exact .inl h
 ·cases cells with
  |nil=>exact .inl rfl
  |cons c cs=>
   have h0:=cell?_lt (hc 0 c rfl)
   obtain ⟨g1,g2⟩:=m.blk b h0 hb
   refine .inr ⟨b,o,rfl,g1,fun j v hv=>?_⟩
   rw[World.cell?_of_block (w:=w) (a:=⟨b,o+j,none⟩) g2]
   exact hc j v hv
theorem Rd.mv {w w':World} {N N':Nat→Prop} (m:Mv w N w' N') {ds:List D} {cs:List Value} (h:Rd w N ds cs):Rd w' N' ds cs:=by
 induction h with
 |nil=>exact .nil
 |int a b _ ih=>exact .int a b ih
 |bool b _ ih=>exact .bool b ih
 |str s hs _ ih=>exact .str s hs ih
 |fn f _ ih=>exact .fn f ih
 |raw v hv _ ih=>exact .raw v hv ih
 |list rows A cap sz cells _ h2 h3 h4 h5 _ ih1 ih2=>exact .list rows A cap sz cells ih1 h2 (h3.mv m) h4 h5 ih2
def ad:Value→Value
 | .tuple xs=>xs.getD 0 undef
 | .agg xs=>xs.getD 0 undef
 |v=>v
theorem ei {v:Value} {A:Option Addr} {n c:Nat} (h:ad v= .slice A n c):v≠undef:=by
 rintro rfl
 simp[ad,undef] at h
theorem zg {v:Value} {xs:Array Value} {k:Nat} {β:Value} (h:v= .tuple xs) (h2:xs[k]? =some β):v≠undef:=by
 rw[h]
 intro e
 have e2:xs= #[]:=by simpa [undef] using e
 subst e2
 simp at h2
inductive Rv (w:World) (N:Nat→Prop) (ν:Nat→Value):List AV→List Value→Prop
 |nil:Rv w N ν [] []
 |any {as vs} (v:Value):Rv w N ν as vs→Rv w N ν (.any::as) (v::vs)
 |d {as vs x v}:Rd w N [x] [v]→Rv w N ν as vs→Rv w N ν (.d x::as) (v::vs)
 |nils {as vs}:Rv w N ν as vs→Rv w N ν (.nils::as) (.slice none 0 0::vs)
 |val {as vs} (v:Value):Rv w N ν as vs→Rv w N ν (.val v::as) (v::vs)
 |agg {as vs cs} (xs:List Value):Rv w N ν cs xs→Rv w N ν as vs→Rv w N ν (.agg cs::as) (.agg xs.toArray::vs)
 |tup {as vs cs} (xs:List Value):Rv w N ν cs xs→Rv w N ν as vs→Rv w N ν (.tup cs::as) (.tuple xs.toArray::vs)
 |ptr {as vs id b} (off:Nat):ν id= .pointer (some ⟨b,0,none⟩)→Rv w N ν as vs→Rv w N ν (.ptr id off::as) (.pointer (some ⟨b,off,none⟩)::vs)
 |at_ {as vs ds} (A:Addr) (cells:List Value):cells≠[]→Rd w N ds cells→Placed w N (some A) cells→Rv w N ν as vs→Rv w N ν (.at_ ds::as) (.pointer (some A)::vs)
 |rptr {as vs id b n c} (i off sz:Nat):ad (ν id)= .slice (some ⟨b,0,none⟩) n c→i<n→Rv w N ν as vs→Rv w N ν (.rptr id i sz off::as) (.pointer (some ⟨b,i*sz+off,none⟩)::vs)
 |own {as vs id A n c}:ad (ν id)= .slice A n c→Rv w N ν as vs→Rv w N ν (.own id::as) (.slice A n c::vs)
 |nest {as vs id xs β A n c} (i off m j:Nat):ν id= .tuple xs→xs[1+(i*m+j)]? =some β→ad β= .slice A n c→Rv w N ν as vs→Rv w N ν (.nest id i off m j::as) (.slice A n c::vs)
 |mapr {as vs id r}:ν id= .map (some r)→Rv w N ν as vs→Rv w N ν (.mapr id::as) (.map (some r)::vs)
 |fn {as vs cs} (f:FuncId) (xs:List Value):Rv w N ν cs xs→Rv w N ν as vs→Rv w N ν (.fn f cs::as) (.func (.func f) #[] xs.toArray::vs)
 |bfn {as vs cs} (f:FuncId) (xs:List Value):Rv w N ν cs xs→Rv w N ν as vs→Rv w N ν (.bfn f cs::as) (.func (.func f) xs.toArray #[]::vs)
 |iface {as vs x v} (t:TypeId):Rv w N ν [x] [v]→Rv w N ν as vs→Rv w N ν (.iface t x::as) (.iface t v::vs)
section
variable {w w':World} {N N':Nat→Prop} {ν ν' ν0:Nat→Value}
theorem Rv.length {as:List AV} {vs:List Value} (h:Rv w N ν as vs):vs.length=as.length:=by
 induction h<;>simp_all
theorem Rv.mv (m:Mv w N w' N') (hν:∀id,ν id≠undef→ν' id=ν id) {as:List AV} {vs:List Value} (h:Rv w N ν as vs):Rv w' N' ν' as vs:=by
 induction h with
 |nil=>exact .nil
 |any v _ ih=>exact .any v ih
 |d h _ ih=>exact .d (h.mv m) ih
 |nils _ ih=>exact .nils ih
 |val v _ ih=>exact .val v ih
 |agg xs _ _ ih1 ih2=>exact .agg xs ih1 ih2
 |tup xs _ _ ih1 ih2=>exact .tup xs ih1 ih2
 |ptr off h _ ih=>exact .ptr off (by rw[hν _ (by rw[h];simp[undef]),h]) ih
 |at_ A cells h0 h1 h2 _ ih=>exact .at_ A cells h0 (h1.mv m) (h2.mv m) ih
 |rptr i off sz h hi _ ih=>exact .rptr i off sz (by rw[hν _ (ei h),h]) hi ih
 |own h _ ih=>exact .own (by rw[hν _ (ei h),h]) ih
 |nest i off m j h1 h2 h3 _ ih=>exact .nest i off m j (by rw[hν _ (zg h1 h2),h1]) h2 h3 ih
 |mapr h _ ih=>exact .mapr (by rw[hν _ (by rw[h];simp[undef]),h]) ih
 |fn f xs _ _ ih1 ih2=>exact .fn f xs ih1 ih2
 |bfn f xs _ _ ih1 ih2=>exact .bfn f xs ih1 ih2
 |iface t _ _ ih1 ih2=>exact .iface t ih1 ih2
theorem Rv.sub (m:Mv w N w' N') {i:Nat} {b:AV} (hν:∀id,id≠i→ν id≠undef→ν' id=ν id) (hb:∀A n c,ad (ν i)= .slice A n c→Rv w' N' ν' [b] [.slice A n c]):
 ∀{as:List AV} {vs:List Value},Rv w N ν as vs→Rv w' N' ν' (bj i b as) vs:=by
 intro as vs h
 induction h with
 |nil=>simp only[bj];exact .nil
 |any v _ ih=>simp only[bj,AV.sub];exact .any v ih
 |d h _ ih=>simp only[bj,AV.sub];exact .d (h.mv m) ih
 |nils _ ih=>simp only[bj,AV.sub];exact .nils ih
 |val v _ ih=>simp only[bj,AV.sub];exact .val v ih
 |agg xs _ _ ih1 ih2=>simp only[bj,AV.sub];exact .agg xs ih1 ih2
 |tup xs _ _ ih1 ih2=>simp only[bj,AV.sub];exact .tup xs ih1 ih2
 |@ptr as vs id b' off h _ ih=>
  simp only[bj,AV.sub]
  by_cases e:id=i
  ·rw[show Nat.beq id i=true from by simpa using e];exact .any _ ih
  ·rw[show Nat.beq id i=false from gy e];exact .ptr off (by rw[hν _ e (by rw[h];simp[undef]),h]) ih
 |at_ A cells h0 h1 h2 _ ih=>simp only[bj,AV.sub];exact .at_ A cells h0 (h1.mv m) (h2.mv m) ih
 |@rptr as vs id b' n c i' off sz h hi _ ih=>
  simp only[bj,AV.sub]
  by_cases e:id=i
  ·rw[show Nat.beq id i=true from by simpa using e];exact .any _ ih
  ·rw[show Nat.beq id i=false from gy e];exact .rptr i' off sz (by rw[hν _ e (ei h),h]) hi ih
 |@own as vs id A n c h _ ih=>
  simp only[bj,AV.sub]
  by_cases e:id=i
  ·rw[show Nat.beq id i=true from by simpa using e]
   subst e
   have:=hb A n c h
   cases hb A n c h with
   |any=>exact .any _ ih
   |d h1=>exact .d h1 ih
   |nils=>exact .nils ih
   |val=>exact .val _ ih
   |own h1=>exact .own h1 ih
   |nest k off m j h1 h2 h3=>exact .nest k off m j h1 h2 h3 ih
  ·rw[show Nat.beq id i=false from gy e];exact .own (by rw[hν _ e (ei h),h]) ih
 |@nest as vs id xs β A n c k off m j h1 h2 h3 _ ih=>
  simp only[bj,AV.sub]
  by_cases e:id=i
  ·rw[show Nat.beq id i=true from by simpa using e];exact .any _ ih
  ·rw[show Nat.beq id i=false from gy e];exact .nest k off m j (by rw[hν _ e (zg h1 h2),h1]) h2 h3 ih
 |@mapr as vs id r h _ ih=>
  simp only[bj,AV.sub]
  by_cases e:id=i
  ·rw[show Nat.beq id i=true from by simpa using e];exact .any _ ih
  ·rw[show Nat.beq id i=false from gy e];exact .mapr (by rw[hν _ e (by rw[h];simp[undef]),h]) ih
 |fn f xs _ _ ih1 ih2=>simp only[bj,AV.sub];exact .fn f xs ih1 ih2
 |bfn f xs _ _ ih1 ih2=>simp only[bj,AV.sub];exact .bfn f xs ih1 ih2
 |iface t _ _ ih1 ih2=>
  simp only[bj,AV.sub] at ih1 ⊢
  exact .iface t ih1 ih2
theorem Rv.cons_inv {a:AV} {as:List AV} {vs:List Value} (h:Rv w N ν (a::as) vs):∃v r,vs=v::r∧Rv w N ν [a] [v]∧Rv w N ν as r:=by
 cases h with
 |any v h=>exact ⟨_,_,rfl,.any v .nil,h⟩
 |d h1 h=>exact ⟨_,_,rfl,.d h1 .nil,h⟩
 |nils h=>exact ⟨_,_,rfl,.nils .nil,h⟩
 |val v h=>exact ⟨_,_,rfl,.val v .nil,h⟩
 |agg xs h1 h=>exact ⟨_,_,rfl,.agg xs h1 .nil,h⟩
 |tup xs h1 h=>exact ⟨_,_,rfl,.tup xs h1 .nil,h⟩
 |ptr off h1 h=>exact ⟨_,_,rfl,.ptr off h1 .nil,h⟩
 |at_ A cells h0 h1 h2 h=>exact ⟨_,_,rfl,.at_ A cells h0 h1 h2 .nil,h⟩
 |rptr i off sz h1 h2 h=>exact ⟨_,_,rfl,.rptr i off sz h1 h2 .nil,h⟩
 |own h1 h=>exact ⟨_,_,rfl,.own h1 .nil,h⟩
 |nest i off m j h1 h2 h3 h=>exact ⟨_,_,rfl,.nest i off m j h1 h2 h3 .nil,h⟩
 |mapr h1 h=>exact ⟨_,_,rfl,.mapr h1 .nil,h⟩
 |fn f xs h1 h=>exact ⟨_,_,rfl,.fn f xs h1 .nil,h⟩
 |bfn f xs h1 h=>exact ⟨_,_,rfl,.bfn f xs h1 .nil,h⟩
 |iface t h1 h=>exact ⟨_,_,rfl,.iface t h1 .nil,h⟩
theorem Rv.cons {a:AV} {v:Value} (h:Rv w N ν [a] [v]) {as:List AV} {vs:List Value} (k:Rv w N ν as vs):Rv w N ν (a::as) (v::vs):=by
 cases h with
 |any v h=>exact .any v k
 |d h1 h=>exact .d h1 k
 |nils h=>exact .nils k
 |val v h=>exact .val v k
 |agg xs h1 h=>exact .agg xs h1 k
 |tup xs h1 h=>exact .tup xs h1 k
 |ptr off h1 h=>exact .ptr off h1 k
 |at_ A cells h0 h1 h2 h=>exact .at_ A cells h0 h1 h2 k
 |rptr i off sz h1 h2 h=>exact .rptr i off sz h1 h2 k
 |own h1 h=>exact .own h1 k
 |nest i off m j h1 h2 h3 h=>exact .nest i off m j h1 h2 h3 k
 |mapr h1 h=>exact .mapr h1 k
 |fn f xs h1 h=>exact .fn f xs h1 k
 |bfn f xs h1 h=>exact .bfn f xs h1 k
 |iface t h1 h=>exact .iface t h1 k
theorem Rv.append {as bs:List AV} {vs us:List Value} (h:Rv w N ν as vs) (k:Rv w N ν bs us):Rv w N ν (as++bs) (vs++us):=by
 induction as generalizing vs with
 |nil=>cases h;exact k
 |cons a as ih=>
  obtain ⟨v,r,rfl,h1,h2⟩:=h.cons_inv
  exact h1.cons (ih h2)
theorem Rv.drop {as:List AV} {vs:List Value} (h:Rv w N ν as vs) (k:Nat):Rv w N ν (as.drop k) (vs.drop k):=by
 induction k generalizing as vs with
 |zero=>exact h
 |succ k ih=>
  cases as with
  |nil=>cases h;exact .nil
  |cons a as=>obtain ⟨v,r,rfl,_,h2⟩:=h.cons_inv;exact ih h2
theorem Rv.take {as:List AV} {vs:List Value} (h:Rv w N ν as vs) (k:Nat):Rv w N ν (as.take k) (vs.take k):=by
 induction k generalizing as vs with
 |zero=>exact .nil
 |succ k ih=>
  cases as with
  |nil=>cases h;exact .nil
  |cons a as=>obtain ⟨v,r,rfl,h1,h2⟩:=h.cons_inv;exact h1.cons (ih h2)
theorem Rv.get {as:List AV} {vs:List Value} (h:Rv w N ν as vs) {k:Nat} {a:AV} (hk:as[k]? =some a):∃v,vs[k]? =some v∧Rv w N ν [a] [v]:=by
 induction k generalizing as vs with
 |zero=>
  cases as with
  |nil=>cases hk
  |cons x as=>obtain ⟨v,r,rfl,h1,_⟩:=h.cons_inv;simp at hk;subst hk;exact ⟨v,rfl,h1⟩
 |succ k ih=>
  cases as with
  |nil=>cases hk
  |cons x as=>obtain ⟨v,r,rfl,_,h2⟩:=h.cons_inv;exact ih h2 (by simpa using hk)
theorem w8 {ds:List D} {cs:List Value} (h:Rd w N ds cs):Rv w N ν (ds.map .d) cs:=by
 induction h with
 |nil=>exact .nil
 |int a b _ ih=>exact .d (.int a b .nil) ih
 |bool b _ ih=>exact .d (.bool b .nil) ih
 |str s hs _ ih=>exact .d (.str s hs .nil) ih
 |fn f _ ih=>exact .d (.fn f .nil) ih
 |raw v hv _ ih=>exact .d (.raw v hv .nil) ih
 |list rows A cap sz cells h1 h2 h3 h4 h5 _ _ ih=>exact .d (.list rows A cap sz cells h1 h2 h3 h4 h5 .nil) ih
theorem Rv.dsOf {as:List AV} {vs:List Value} {ds:List D} (h:Rv w N ν as vs) (hd:dsOf as=some ds):Rd w N ds vs:=by
 induction as generalizing vs ds with
 |nil=>cases h;simp[Vc.dsOf] at hd;subst hd;exact .nil
 |cons a as ih=>
  obtain ⟨v,r,rfl,h1,h2⟩:=h.cons_inv
  unfold Vc.dsOf at hd
  split at hd
  ·rename_i e;cases e
  ·rename_i x r' e
   injection e with e1 e2
   subst e1 e2
   simp only[Option.map_eq_some_iff] at hd
   obtain ⟨ds',hd',rfl⟩:=hd
   cases h1 with
   |d h3=>exact h3.append (ih h2 hd')
  ·rename_i r' e
   injection e with e1 e2
   subst e1 e2
   simp only[Option.map_eq_some_iff] at hd
   obtain ⟨ds',hd',rfl⟩:=hd
   cases h1 with
   |nils _=>exact .list [] none 0 0 [] .nil (by simp) (.inl rfl) (Nat.le_refl _) (Nat.zero_le _) (ih h2 hd')
  ·rename_i f r' e
   injection e with e1 e2
   subst e1 e2
   simp only[Option.map_eq_some_iff] at hd
   obtain ⟨ds',hd',rfl⟩:=hd
   cases h1 with
   |fn _ xs h3 _=>cases h3;exact .fn f (ih h2 hd')
  ·cases hd
theorem Rv.oneCell {a:AV} {v:Value} (h:Rv w N ν [a] [v]) (h1:a.one=true):v.oneCell'=true:=by
 cases h with
 |d h _=>exact h.one _ (by simp)
 |_=>simp_all [AV.one,Value.oneCell']
theorem Rv.oneL {as:List AV} {vs:List Value} (h:Rv w N ν as vs) (h1:oneL as=true):∀v∈vs,v.oneCell'=true:=by
 induction as generalizing vs with
 |nil=>cases h;simp
 |cons a as ih=>
  obtain ⟨v,r,rfl,h2,h3⟩:=h.cons_inv
  simp[Vc.oneL] at h1
  intro u hu
  rcases List.mem_cons.1 hu with rfl|hu
  ·exact h2.oneCell h1.1
  ·exact ih h3 h1.2 u hu
theorem Rv.noOwn (m:Mv w N w' N') (hν:∀id,ν id≠undef→(∀A k c,ad (ν id)≠ .slice A k c)→ν' id=ν id):∀{as:List AV} {vs:List Value},Rv w N ν as vs→Rv w' N' ν' (aR as) vs:=by
 intro as vs h
 induction h with
 |nil=>simp only[aR];exact .nil
 |any v _ ih=>simp only[aR,AV.noOwn];exact .any v ih
 |d h _ ih=>simp only[aR,AV.noOwn];exact .d (h.mv m) ih
 |nils _ ih=>simp only[aR,AV.noOwn];exact .nils ih
 |val v _ ih=>simp only[aR,AV.noOwn];exact .val v ih
 |agg xs _ _ ih1 ih2=>simp only[aR,AV.noOwn];exact .agg xs ih1 ih2
 |tup xs _ _ ih1 ih2=>simp only[aR,AV.noOwn];exact .tup xs ih1 ih2
 |ptr off h _ ih=>simp only[aR,AV.noOwn];exact .ptr off (by rw[hν _ (by rw[h];simp[undef]) (by rw[h];simp[ad]),h]) ih
 |at_ A cells h0 h1 h2 _ ih=>simp only[aR,AV.noOwn];exact .at_ A cells h0 (h1.mv m) (h2.mv m) ih
 |rptr i off sz h hi _ ih=>simp only[aR,AV.noOwn];exact .any _ ih
 |own h _ ih=>simp only[aR,AV.noOwn];exact .any _ ih
 |nest _ _ _ _ _ _ _ _ ih=>simp only[aR,AV.noOwn];exact .any _ ih
 |mapr h _ ih=>simp only[aR,AV.noOwn];exact .mapr (by rw[hν _ (by rw[h];simp[undef]) (by rw[h];simp[ad]),h]) ih
 |fn f xs _ _ ih1 ih2=>simp only[aR,AV.noOwn];exact .fn f xs ih1 ih2
 |bfn f xs _ _ ih1 ih2=>simp only[aR,AV.noOwn];exact .bfn f xs ih1 ih2
 |iface t _ _ ih1 ih2=>simp only[aR,AV.noOwn] at ih1 ⊢;exact .iface t ih1 ih2
def Same (x y:Value):Prop:=y=x∨∃A n c,ad x= .slice A n c∧ad y= .slice A n c
theorem Same.root {x y:Value} (h:Same x y) {A:Option Addr} {n c:Nat} (e:ad x= .slice A n c):ad y= .slice A n c:=by
 rcases h with h|⟨A',n',c',h1,h2⟩
 ·rw[h];exact e
 ·rw[h2,←h1,e]
theorem Same.ptr {x y:Value} (h:Same x y) {a:Option Addr} (e:x= .pointer a):y= .pointer a:=by
 rcases h with h|⟨A',n',c',h1,h2⟩
 ·rw[h];exact e
 ·rw[e] at h1;simp[ad] at h1
theorem Same.map {x y:Value} (h:Same x y) {a:Option Nat} (e:x= .map a):y= .map a:=by
 rcases h with h|⟨A',n',c',h1,h2⟩
 ·rw[h];exact e
 ·rw[e] at h1;simp[ad] at h1
theorem Rv.map (m:Mv w N w' N') {f:Nat→Option Nat} (hν:∀id j,f id=some j→ν id≠undef→Same (ν id) (ν' j)):∀{as:List AV} {vs:List Value},Rv w N ν as vs→Rv w' N' ν' (aM f as) vs:=by
 intro as vs h
 induction h with
 |nil=>simp only[aM];exact .nil
 |any v _ ih=>simp only[aM,AV.map];exact .any v ih
 |d h _ ih=>simp only[aM,AV.map];exact .d (h.mv m) ih
 |nils _ ih=>simp only[aM,AV.map];exact .nils ih
 |val v _ ih=>simp only[aM,AV.map];exact .val v ih
 |agg xs _ _ ih1 ih2=>simp only[aM,AV.map];exact .agg xs ih1 ih2
 |tup xs _ _ ih1 ih2=>simp only[aM,AV.map];exact .tup xs ih1 ih2
 |@ptr as vs id b off h _ ih=>
  simp only[aM,AV.map]
  cases hf:f id with
  |none=>exact .any _ ih
  |some j=>exact .ptr off ((hν _ _ hf (by rw[h];simp[undef])).ptr h) ih
 |at_ A cells h0 h1 h2 _ ih=>simp only[aM,AV.map];exact .at_ A cells h0 (h1.mv m) (h2.mv m) ih
 |@rptr as vs id b n c i off sz h hi _ ih=>
  simp only[aM,AV.map]
  cases hf:f id with
  |none=>exact .any _ ih
  |some j=>exact .rptr i off sz ((hν _ _ hf (ei h)).root h) hi ih
 |@own as vs id A n c h _ ih=>
  simp only[aM,AV.map]
  cases hf:f id with
  |none=>exact .any _ ih
  |some j=>exact .own ((hν _ _ hf (ei h)).root h) ih
 |nest _ _ _ _ _ _ _ _ ih=>simp only[aM,AV.map];exact .any _ ih
 |@mapr as vs id r h _ ih=>
  simp only[aM,AV.map]
  cases hf:f id with
  |none=>exact .any _ ih
  |some j=>exact .mapr ((hν _ _ hf (by rw[h];simp[undef])).map h) ih
 |fn f xs _ _ ih1 ih2=>simp only[aM,AV.map];exact .fn f xs ih1 ih2
 |bfn f xs _ _ ih1 ih2=>simp only[aM,AV.map];exact .bfn f xs ih1 ih2
 |iface t _ _ ih1 ih2=>simp only[aM,AV.map] at ih1 ⊢;exact .iface t ih1 ih2
def bC:List D→Option Value
 |[.int k n]=>some (.int k n)
 |[.str s]=>some (.string (fe s))
 |[.bool b]=>some (.bool b)
 |[.str a,.str b]=>some (.agg #[.string (fe a),.string (fe b)])
 |_=>none
inductive Km (w:World) (N:Nat→Prop) (ν:Nat→Value) (tk:TK):List (List D×AV)→List MapEntry→Prop
 |nil:Km w N ν tk [] []
 |cons {ks a es e l}:dc tk ks=true→bC ks=some e.key→Rv w N ν [a] [e.val]→Km w N ν tk es l→Km w N ν tk ((ks,a)::es) (e::l)
theorem Km.mv (m:Mv w N w' N') (hν:∀id,ν id≠undef→ν' id=ν id) {tk:TK} {es:List (List D×AV)} {l:List MapEntry} (h:Km w N ν tk es l):Km w' N' ν' tk es l:=by
 induction h with
 |nil=>exact .nil
 |cons h1 h2 h3 _ ih=>exact .cons h1 h2 (h3.mv m hν) ih
theorem Km.sub (m:Mv w N w' N') {i:Nat} {b:AV} (hν:∀id,id≠i→ν id≠undef→ν' id=ν id) (hb:∀A n c,ad (ν i)= .slice A n c→Rv w' N' ν' [b] [.slice A n c])
 {tk:TK} {es:List (List D×AV)} {l:List MapEntry} (h:Km w N ν tk es l):Km w' N' ν' tk (zj i b es) l:=by
 induction h with
 |nil=>exact .nil
 |cons h1 h2 h3 _ ih=>
  have:=h3.sub m hν hb
  simp only[bj] at this
  exact .cons h1 h2 this ih
theorem Km.map (m:Mv w N w' N') {f:Nat→Option Nat} (hν:∀id j,f id=some j→ν id≠undef→Same (ν id) (ν' j)) {tk:TK} {es:List (List D×AV)} {l:List MapEntry} (h:Km w N ν tk es l):Km w' N' ν' tk (DF f es) l:=by
 induction h with
 |nil=>exact .nil
 |cons h1 h2 h3 _ ih=>
  have:=h3.map m hν
  simp only[aM] at this
  exact .cons h1 h2 this ih
end
end Go.Vc
end
section
namespace Go.Vc
def bG:Value→Option Nat
 | .pointer (some a)=>some a.block
 | .slice (some a) _ _=>some a.block
 | .map (some r)=>some r
 |_=>none
inductive Ow:Value→Nat→Prop
 |leaf {v:Value} {b:Nat}:bG v=some b→Ow v b
 |sub {xs:Array Value} {x:Value} {b:Nat}:x∈xs.toList→Ow x b→Ow (.tuple xs) b
@[simp] theorem GO {b:Nat}:¬Ow (.tuple #[]) b:=by
  intro h
  cases h with
  |leaf h=>simp[bG] at h
  |sub h _=>simp at h
@[simp] theorem ki {b:Nat}:¬Ow undef b:=by
  intro h
  cases h with
  |leaf h=>simp[undef,bG] at h
  |sub h _=>simp[undef] at h
theorem zI {v:Value} (hv:∀xs,v≠ .tuple xs) {b:Nat}:Ow v b↔bG v=some b:=
 ⟨fun h=>by cases h with|leaf h=>exact h|sub _ _=>exact absurd rfl (hv _),.leaf⟩
theorem ow_slice {A:Option Addr} {n c b:Nat}:Ow (.slice A n c) b↔bG (.slice A n c)=some b:=zI (fun _ h=>by cases h)
theorem zH {A:Option Addr} {b:Nat}:Ow (.pointer A) b↔bG (.pointer A)=some b:=zI (fun _ h=>by cases h)
theorem Dq {r:Option Nat} {b:Nat}:Ow (.map r) b↔bG (.map r)=some b:=zI (fun _ h=>by cases h)
def _root_.Go.World.ownRow (w:World) (base:Nat) (e:TypeId) (size:Nat) (v:Value) (n:Nat) (xs:List Value):Prop:=
 xs.length=n*size∧
 ((v= .slice none 0 0∧n=0)∨
  ∃g cap cur,v= .slice (some ⟨g,0,none⟩) n cap∧base≤g∧w.heap[g]? =some (.cells cur e (0,0))∧n≤cap∧cap≤maxLen∧cap*size≤cur.size∧cur.toList.take (n*size)=xs)
theorem eR {w w':World} {t sz k:Nat} {v:Value} {cells:List Value} (h:w.ownRow 0 t sz v k cells) (hb:∀b,bG v=some b→w'.heap[b]? =w.heap[b]?):w'.ownRow 0 t sz v k cells:=by
 refine ⟨h.1,?_⟩
 rcases h.2 with h|⟨g,cap,cur,rfl,h1,h2,h3⟩
 ·exact .inl h
 ·exact .inr ⟨g,cap,cur,rfl,h1,by rw[hb g rfl];exact h2,h3⟩
theorem im {w:World} {t sz k:Nat} {v:Value} {cells:List Value} (h:w.ownRow 0 t sz v k cells):∀b,bG v=some b→b<w.heap.size:=by
 intro b hb
 rcases h.2 with ⟨rfl,_⟩|⟨g,cap,cur,rfl,_,h2,_⟩
 ·cases hb
 ·simp only[bG,Option.some.injEq] at hb
  subst hb
  exact (Array.getElem?_eq_some_iff.1 h2).1
theorem dK {w:World} {N:Nat→Prop} {t sz k c:Nat} {A:Option Addr} {cells:List Value} (h:w.ownRow 0 t sz (.slice A k c) k cells) (hb:∀b,bG (.slice A k c)=some b→¬N b):Placed w N A cells∧k≤c:=by
 rcases h.2 with ⟨e,e2⟩|⟨g,cap,cur,e,_,h2,h3,_,_,h6⟩
 ·injection e with e1 e3 e4
  subst e2
  exact ⟨.inl (List.eq_nil_of_length_eq_zero (by rw[h.1];simp)),by omega⟩
 ·injection e with e1 e3 e4
  subst e1 e4
  refine ⟨.inr ⟨g,0,rfl,hb g rfl,fun j v hv=>?_⟩,h3⟩
  rw[←h6,List.getElem?_take] at hv
  split at hv
  ·simpa [World.cell?,h2] using hv
  ·cases hv
inductive Tr (w:World):List NT→List D→List Value→List Value→List Nat→Prop
 |nil:Tr w [] [] [] [] []
 |leaf {fs ds cs βs bs} (d:D) (v:Value):d.flat=true→(∀w N,Rd w N [d] [v])→Tr w fs ds cs βs bs→Tr w (.leaf::fs) (d::ds) (v::cs) βs bs
 |list {fs ds cs βs bs} (t sz:Nat) (fs':List NT) (rows:List (List D)) (A:Option Addr) (cap:Nat) (cells βs':List Value) (bs':List Nat):
   Tr w (List.replicate rows.length fs').flatten rows.flatten cells βs' bs'→(∀r∈rows,r.length=sz)→fs'.length=sz→0<sz→rows.length≤ap→w.ownRow 0 t sz (.slice A rows.length cap) rows.length cells→
   Tr w fs ds cs βs bs→
   Tr w (.list t sz fs'::fs) (.list rows::ds) (.slice A rows.length cap::cs) (.tuple (.slice A rows.length cap::βs').toArray::βs) ((bG (.slice A rows.length cap)).toList++bs'++bs)
def Tb (w:World) (t sz:Nat) (fs:List NT) (rows:List (List D)) (β:Value) (bs:List Nat):Prop:=
 ∃A cap cells βs bs',β= .tuple (.slice A rows.length cap::βs).toArray∧bs=(bG (.slice A rows.length cap)).toList++bs'∧Tr w (List.replicate rows.length fs).flatten rows.flatten cells βs bs'∧
  (∀r∈rows,r.length=sz)∧fs.length=sz∧0<sz∧rows.length≤ap∧w.ownRow 0 t sz (.slice A rows.length cap) rows.length cells
section
variable {w w':World} {fs gs:List NT} {ds es:List D} {cs us βs γs:List Value} {bs ns:List Nat}
theorem Tr.keep (h:Tr w fs ds cs βs bs) (hb:∀b∈bs,w'.heap[b]? =w.heap[b]?):Tr w' fs ds cs βs bs:=by
 induction h with
 |nil=>exact .nil
 |leaf d v h1 h2 _ ih=>exact .leaf d v h1 h2 (ih hb)
 |list t sz fs' rows A cap cells βs' bs' _ h2 h3 h4 h5 h6 _ ih1 ih2=>
  simp only[List.mem_append] at hb
  exact .list t sz fs' rows A cap cells βs' bs' (ih1 fun b g=>hb b (.inl (.inr g))) h2 h3 h4 h5 (eR h6 fun b g=>hb b (.inl (.inl (by simp[g])))) (ih2 fun b g=>hb b (.inr g))
theorem Tr.bnd (h:Tr w fs ds cs βs bs):∀b∈bs,b<w.heap.size:=by
 induction h with
 |nil=>simp
 |leaf d v h1 h2 _ ih=>exact ih
 |list t sz fs' rows A cap cells βs' bs' _ h2 h3 h4 h5 h6 _ ih1 ih2=>
  intro b hb
  simp only[List.mem_append,Option.mem_toList] at hb
  rcases hb with (hb|hb)|hb
  ·exact im h6 b hb
  ·exact ih1 b hb
  ·exact ih2 b hb
theorem Tr.len (h:Tr w fs ds cs βs bs):ds.length=fs.length∧cs.length=fs.length∧βs.length=nl fs:=by
 induction h with
 |nil=>exact ⟨rfl,rfl,rfl⟩
 |leaf d v h1 h2 _ ih=>simp[ih.1,ih.2.1,ih.2.2,nl]
 |list t sz fs' rows A cap cells βs' bs' _ h2 h3 h4 h5 h6 _ ih1 ih2=>simp[ih2.1,ih2.2.1,ih2.2.2,nl]
theorem Tr.append (h:Tr w fs ds cs βs bs) (k:Tr w gs es us γs ns):Tr w (fs++gs) (ds++es) (cs++us) (βs++γs) (bs++ns):=by
 induction h with
 |nil=>exact k
 |leaf d v h1 h2 _ ih=>exact .leaf d v h1 h2 ih
 |list t sz fs' rows A cap cells βs' bs' h1 h2 h3 h4 h5 h6 _ ih1 ih2=>
  rw[List.append_assoc]
  exact .list t sz fs' rows A cap cells βs' bs' h1 h2 h3 h4 h5 h6 ih2
theorem Tr.split:∀{fs gs:List NT} {ds:List D} {cs βs:List Value} {bs:List Nat},Tr w (fs++gs) ds cs βs bs→
 ∃d1 d2 c1 c2 β1 β2 b1 b2,ds=d1++d2∧cs=c1++c2∧βs=β1++β2∧bs=b1++b2∧Tr w fs d1 c1 β1 b1∧Tr w gs d2 c2 β2 b2
 |[],gs,ds,cs,βs,bs,h=>⟨[],ds,[],cs,[],βs,[],bs,rfl,rfl,rfl,rfl,.nil,h⟩
 |f::fs,gs,ds,cs,βs,bs,h=>by
  cases h with
  |leaf d v h1 h2 h=>
   obtain ⟨d1,d2,c1,c2,β1,β2,b1,b2,rfl,rfl,rfl,rfl,g1,g2⟩:=Tr.split h
   exact ⟨d::d1,d2,v::c1,c2,β1,β2,b1,b2,rfl,rfl,rfl,rfl,.leaf d v h1 h2 g1,g2⟩
  |list t sz fs' rows A cap cells βs' bs' h1 h2 h3 h4 h5 h6 h=>
   obtain ⟨d1,d2,c1,c2,β1,β2,b1,b2,rfl,rfl,rfl,rfl,g1,g2⟩:=Tr.split h
   exact ⟨_::d1,d2,_::c1,c2,_::β1,β2,_,b2,rfl,rfl,rfl,by simp only[List.append_assoc],.list t sz fs' rows A cap cells βs' bs' h1 h2 h3 h4 h5 h6 g1,g2⟩
theorem Tr.rd {N:Nat→Prop} (h:Tr w fs ds cs βs bs) (hb:∀b∈bs,¬N b):Rd w N ds cs:=by
 induction h with
 |nil=>exact .nil
 |leaf d v h1 h2 _ ih=>exact (h2 w N).append (ih hb)
 |list t sz fs' rows A cap cells βs' bs' _ h2 h3 h4 h5 h6 _ ih1 ih2=>
  simp only[List.mem_append] at hb
  obtain ⟨p1,p2⟩:=dK (N:=N) h6 (fun b g=>hb b (.inl (.inl (by simp[g]))))
  exact .list rows A cap sz cells (ih1 fun b g=>hb b (.inl (.inr g))) h2 p1 p2 h5 (ih2 fun b g=>hb b (.inr g))
theorem Tr.one (h:Tr w fs ds cs βs bs):∀v∈cs,v.oneCell'=true:=(h.rd (N:=fun _=>False) (fun _ _ g=>g)).one
theorem Tr.ow (h:Tr w fs ds cs βs bs):∀b,(∃x∈βs,Ow x b)↔b∈bs:=by
 induction h with
 |nil=>simp
 |leaf d v h1 h2 _ ih=>exact ih
 |list t sz fs' rows A cap cells βs' bs' _ h2 h3 h4 h5 h6 _ ih1 ih2=>
  intro b
  simp only[List.mem_cons,List.mem_append,Option.mem_toList]
  constructor
  ·rintro ⟨x,rfl|hx,ho⟩
   ·left
    cases ho with
    |leaf g=>cases g
    |sub hx ho=>
     simp only[List.mem_cons] at hx
     rcases hx with rfl|hx
     ·rw[ow_slice] at ho;exact .inl ho
     ·exact .inr ((ih1 b).1 ⟨_,hx,ho⟩)
   ·exact .inr ((ih2 b).1 ⟨x,hx,ho⟩)
  ·rintro ((g|g)|g)
   ·exact ⟨_,.inl rfl,.sub (x:= .slice A rows.length cap) (by simp) (.leaf g)⟩
   ·obtain ⟨x,hx,ho⟩:=(ih1 b).2 g
    exact ⟨_,.inl rfl,.sub (x:=x) (by simp[hx]) ho⟩
   ·obtain ⟨x,hx,ho⟩:=(ih2 b).2 g
    exact ⟨x,.inr hx,ho⟩
theorem jj {t sz:Nat} {fs':List NT} {rows:List (List D)} {v β:Value} {b1 b2:List Nat} (h:Tb w t sz fs' rows β b1) (hv:ad β=v) (k:Tr w fs ds cs βs b2):
 Tr w (.list t sz fs'::fs) (.list rows::ds) (v::cs) (β::βs) (b1++b2):=by
 obtain ⟨A,cap,cells,βs',bs',rfl,rfl,h1,h2,h3,h4,h5,h6⟩:=h
 subst hv
 exact .list t sz fs' rows A cap cells βs' bs' h1 h2 h3 h4 h5 h6 k
theorem xy {t sz:Nat} {fs':List NT} {d:D} (h:Tr w (.list t sz fs'::fs) (d::ds) cs βs bs):
 ∃rows v us β γs b1 b2,d= .list rows∧cs=v::us∧βs=β::γs∧bs=b1++b2∧Tb w t sz fs' rows β b1∧ad β=v∧(∃A n c,v= .slice A n c)∧Tr w fs ds us γs b2:=by
 cases h with
 |list _ _ _ rows A cap cells βs' bs' h1 h2 h3 h4 h5 h6 k=>
  exact ⟨rows,_,_,_,_,_,_,rfl,rfl,rfl,rfl,⟨A,cap,cells,βs',bs',rfl,rfl,h1,h2,h3,h4,h5,h6⟩,rfl,⟨_,_,_,rfl⟩,k⟩
variable {t sz:Nat} {rows:List (List D)} {β:Value}
theorem Tb.keep (h:Tb w t sz fs rows β bs) (hb:∀b∈bs,w'.heap[b]? =w.heap[b]?):Tb w' t sz fs rows β bs:=by
 obtain ⟨A,cap,cells,βs',bs',rfl,rfl,h1,h2,h3,h4,h5,h6⟩:=h
 simp only[List.mem_append] at hb
 exact ⟨A,cap,cells,βs',bs',rfl,rfl,h1.keep fun b g=>hb b (.inr g),h2,h3,h4,h5,eR h6 fun b g=>hb b (.inl (by simp[g]))⟩
theorem Tb.ow (h:Tb w t sz fs rows β bs) (b:Nat):Ow β b↔b∈bs:=by
 have:=(jj (v:=ad β) h rfl .nil).ow b
 simpa using this
theorem Tb.bnd (h:Tb w t sz fs rows β bs):∀b∈bs,b<w.heap.size:=by
 have:=(jj (v:=ad β) h rfl .nil).bnd
 simpa using this
theorem Tb.root (h:Tb w t sz fs rows β bs):∃A c,ad β= .slice A rows.length c:=by
 obtain ⟨A,cap,cells,βs',bs',rfl,rfl,_⟩:=h
 exact ⟨A,cap,rfl⟩
theorem Tb.rd {N:Nat→Prop} (h:Tb w t sz fs rows β bs) (hb:∀b∈bs,¬N b):Rd w N [.list rows] [ad β]:=(jj h rfl .nil).rd (by simpa using hb)
theorem Tb.ne (h:Tb w t sz fs rows β bs):β≠undef:=by
 obtain ⟨A,cap,cells,βs',bs',rfl,rfl,_⟩:=h
 simp[undef]
end
def nN (N0:Nat→Prop) (ν:Nat→Value):Nat→Prop:=fun b=>N0 b∨∃id,Ow (ν id) b
def dh (ν:Nat→Value) (i:Nat) (v:Value):Nat→Value:=fun j=>if j=i then v else ν j
def y9 (arr:Array MapEntry) (clock:Nat):Prop:=clock=arr.size∧∀(j:Nat) (e:MapEntry),arr[j]? =some e→e.born=j
def Ro (w:World) (N:Nat→Prop) (ν:Nat→Value) (id:Nat):AO→Prop
 | .cells _ cs=>∃b arr e,ν id= .pointer (some ⟨b,0,none⟩)∧w.heap[b]? =some (.cells arr e (0,0))∧Rv w N ν cs arr.toList
 | .row t sz rows=>∃A c cells,ν id= .slice A rows.length c∧Rd w N rows.flatten cells∧(∀r∈rows,r.length=sz)∧rows.length≤ap∧0<sz∧w.ownRow 0 t sz (ν id) rows.length cells
 | .tree t sz fs rows=>∃bs,Tb w t sz fs rows (ν id) bs∧bs.Nodup
 | .map _ tk es=>∃r arr clock,ν id= .map (some r)∧w.heap[r]? =some (.map arr clock)∧Km w N ν tk.base es arr.toList∧(tk.isDel=false→y9 arr clock)
def LwOk (N0:Nat→Prop) (w:World):Prop:=∀p∈LG,N0 p.1∧w.cell? ⟨p.1,0,none⟩=some p.2
theorem LwOk.mv {N0:Nat→Prop} {w w':World} (h:LwOk N0 w) (hb:∀b,N0 b→b<w.heap.size→w'.heap[b]? =w.heap[b]?):LwOk N0 w':=fun p hp=>by
 obtain ⟨h1,h2⟩:=h p hp
 refine ⟨h1,?_⟩
 rw[World.cell?_of_block (w:=w) (a:=⟨p.1,0,none⟩) (hb p.1 h1 (cell?_lt h2))]
 exact h2
structure Hp (N0:Nat→Prop) (w:World) (ν:Nat→Value) (h:Heap):Prop where
 objs:∀id o,look h.objs id=some o→Ro w (nN N0 ν) ν id o
 inj:∀i j b,Ow (ν i) b→Ow (ν j) b→i=j
 bnd:∀i b,Ow (ν i) b→b<w.heap.size
 dom:∀i,h.nx≤i→ν i=undef
 n0:∀b,N0 b→b<w.heap.size
 dis:∀i b,Ow (ν i) b→¬N0 b
 lw:LwOk N0 w
theorem Hp.root {N0:Nat→Prop} {w:World} {ν:Nat→Value} {h:Heap} (hp:Hp N0 w ν h) {i t sz:Nat} {rows:List (List D)} (hl:look h.objs i=some (.row t sz rows)):ad (ν i)=ν i:=by
 obtain ⟨A,c,cells,h1,_⟩:=hp.objs _ _ hl
 rw[h1];rfl
structure Kp (Nf:Nat→Prop) (w0 w:World):Prop where
 os:w.os=w0.os
 tape:w.tape=w0.tape
 output:w.output=w0.output
 size:w0.heap.size≤w.heap.size
 blk:∀b,b<w0.heap.size→¬Nf b→w.heap[b]? =w0.heap[b]?
theorem Kp.refl (Nf:Nat→Prop) (w:World):Kp Nf w w:=⟨rfl,rfl,rfl,Nat.le_refl _,fun _ _ _=>rfl⟩
theorem Kp.trans {Nf Ng:Nat→Prop} {a b c:World} (h:Kp Nf a b) (k:Kp Ng b c) (hN:∀x,x<a.heap.size→Ng x→Nf x):Kp Nf a c:=
 ⟨k.os.trans h.os,k.tape.trans h.tape,k.output.trans h.output,Nat.le_trans h.size k.size,fun x hx hn=>(k.blk x (Nat.lt_of_lt_of_le hx h.size) (fun g=>hn (hN x hx g))).trans (h.blk x hx hn)⟩
structure Md where
 nd:Bool
 fx:Bool
 tl:List Deferred
def Bb (D:Nat):Deferred:={target:= .collected D,args:= #[]}
def Dfr (q:Md) (w0 w:World) (ν:Nat→Value) (ds:List Deferred):Prop:=(q.nd=true→ds=q.tl)∧
 ∃Ds:List Nat,ds=Ds.map Bb++q.tl∧Ds.Nodup∧∀D∈Ds,w0.heap.size≤D∧w.heap[D]? =some (.deferred (some []))∧∀i,¬Ow (ν i) D
theorem Dfr.mv {q:Md} {w0 w w':World} {ν ν':Nat→Value} {ds:List Deferred} (h:Dfr q w0 w ν ds) (hb:∀b,b<w.heap.size→(∀i,¬Ow (ν i) b)→w'.heap[b]? =w.heap[b]?)
 (hν:∀i b,Ow (ν' i) b→(∃j,Ow (ν j) b)∨w.heap.size≤b):Dfr q w0 w' ν' ds:=by
 obtain ⟨h0,Ds,h1,h2,h3⟩:=h
 refine ⟨h0,Ds,h1,h2,fun D hD=>?_⟩
 obtain ⟨g1,g2,g3⟩:=h3 D hD
 have hlt:D<w.heap.size:=(Array.getElem?_eq_some_iff.1 g2).1
 refine ⟨g1,by rw[hb D hlt g3];exact g2,fun i e=>?_⟩
 rcases hν i D e with ⟨j,g⟩|g
 ·exact g3 j g
 ·omega
theorem Dfr.nil (q:Md) (w0 w:World) (ν:Nat→Value) (h:q.tl=[]:=by rfl):Dfr q w0 w ν []:=⟨fun _=>h.symm,[],h.symm,List.nodup_nil,fun _ h=>by cases h⟩
structure St (q:Md) (N0:Nat→Prop) (w0:World) (Nf:Nat→Prop) (n:Nat) (ν0:Nat→Value) (σ:Env) (h:Heap) (a:Act) (w:World) (ν:Nat→Value):Prop where
 slots:∀k,Rv w (nN N0 ν) ν [σ k] [a.tmps.getD k undef]
 hp:Hp N0 w ν h
 kp:Kp Nf w0 w
 fresh:∀i b,Ow (ν i) b→w0.heap.size≤b∨Nf b
 size:a.tmps.size=n
 defers:Dfr q w0 w ν a.defers
 keep:(∀i,ν0 i≠undef→(∀A m c,ad (ν0 i)≠ .slice A m c)→ν i=ν0 i)∧(q.fx=true→∀i,ν0 i≠undef→ad (ν i)=ad (ν0 i))
 low:h.lo≤h.nx∧∀i,h.lo≤i→ν0 i=undef
section
variable {q:Md} {N0 Nf:Nat→Prop} {w0 w w':World} {n:Nat} {σ:Env} {h:Heap} {a:Act} {ν ν' ν0:Nat→Value}
theorem DX (a:Act) (d:Option Nat) (v:Value) (k:Nat):(a.put d v).tmps.getD k undef=match d with
 |none=>a.tmps.getD k undef
 |some d=>if k=d∧d<a.tmps.size then v else a.tmps.getD k undef:=by
 cases d with
 |none=>rfl
 |some d=>
  simp only[Act.put,Array.getD_eq_getD_getElem?,Array.getElem?_setIfInBounds]
  by_cases h1:d=k
  ·subst h1
   by_cases h2:d<a.tmps.size
   ·simp[h2]
   ·simp[h2]
  ·rw[if_neg h1,if_neg (fun h=>h1 h.1.symm)]
theorem eC (a:Act) (d:Option Nat) (v:Value):(a.put d v).tmps.size=a.tmps.size:=by
 cases d<;>simp[Act.put]
theorem c9 (a:Act) (d:Option Nat) (v:Value):(a.put d v).defers=a.defers:=by
 cases d<;>simp[Act.put]
theorem dm {w:World} {N:Nat→Prop} (hs:∀k,Rv w N ν [σ k] [a.tmps.getD k undef]) (hn:a.tmps.size=n) (d:Option Nat) {r:AV} {v:Value} (hr:Rv w N ν [r] [v]):
 ∀k,Rv w N ν [(σ.putO n d r) k] [(a.put d v).tmps.getD k undef]:=by
 intro k
 rw[DX]
 cases d with
 |none=>exact hs k
 |some d=>
  simp only[Env.putO]
  by_cases h2:d<a.tmps.size
  ·rw[show Nat.ble (d+1) n=true from by rw[Nat.ble_eq];omega]
   simp only[cond_true,Env.put]
   by_cases h1:k=d
   ·subst h1;rw[iq,if_pos ⟨rfl,h2⟩];exact hr
   ·rw[gy h1,if_neg (fun h=>h1 h.1)];exact hs k
  ·rw[show Nat.ble (d+1) n=false from by cases e:Nat.ble (d+1) n;rfl;rw[Nat.ble_eq] at e;omega]
   rw[if_neg (fun h=>h2 h.2)]
   exact hs k
theorem Hp.mvN (hp:Hp N0 w ν h) (hsz:w.heap.size≤w'.heap.size) (tb:Nat→Prop) (hb:∀b,b<w.heap.size→¬tb b→w'.heap[b]? =w.heap[b]?) (htb:∀b,tb b→nN N0 ν b)
 (hnew:∀id b,Ow (ν' id) b→Ow (ν id) b∨w.heap.size≤b):Mv w (nN N0 ν) w' (nN N0 ν'):=by
 refine ⟨hsz,fun b hlt hN=>⟨?_,hb b hlt (fun g=>hN (htb b g))⟩⟩
 rintro (g|⟨id,g⟩)
 ·exact hN (.inl g)
 ·rcases hnew id b g with g|g
  ·exact hN (.inr ⟨id,g⟩)
  ·omega
theorem Ro.keep {N N':Nat→Prop} (m:Mv w N w' N') (hν:∀id,ν id≠undef→ν' id=ν id) {id:Nat} {o:AO} (hb:∀b,Ow (ν id) b→w'.heap[b]? =w.heap[b]?)
 (hr:Ro w N ν id o):Ro w' N' ν' id o:=by
 cases o with
 |cells t cs=>
  obtain ⟨b,arr,e,h1,h2,h3⟩:=hr
  refine ⟨b,arr,e,?_,?_,h3.mv m hν⟩
  ·rw[hν id (by rw[h1];simp[undef]),h1]
  ·rw[hb b (by rw[h1];exact .leaf rfl)];exact h2
 |row t sz rows=>
  obtain ⟨A,c,cells,h1,h2,h3,h4,h5,h6⟩:=hr
  have e:ν' id=ν id:=hν id (by rw[h1];simp[undef])
  refine ⟨A,c,cells,by rw[e,h1],h2.mv m,h3,h4,h5,?_⟩
  rw[e]
  exact eR h6 fun b h=>hb b (.leaf h)
 |tree t sz fs rows=>
  obtain ⟨bs,h1,h2⟩:=hr
  refine ⟨bs,?_,h2⟩
  rw[hν id h1.ne]
  exact h1.keep fun b g=>hb b ((h1.ow b).2 g)
 |map t tk es=>
  obtain ⟨r,arr,clock,h1,h2,h3,hB⟩:=hr
  exact ⟨r,arr,clock,by rw[hν id (by rw[h1];simp[undef]),h1],by rw[hb r (by rw[h1];exact .leaf rfl)];exact h2,h3.mv m hν,hB⟩
theorem sL {N N':Nat→Prop} (m:Mv w N w' N') {i:Nat} {by_:AV} (hν:∀id,id≠i→ν id≠undef→ν' id=ν id) (hby:∀A n c,ad (ν i)= .slice A n c→Rv w' N' ν' [by_] [.slice A n c])
 {id:Nat} {o:AO} (hid:id≠i) (hb:∀b,Ow (ν id) b→w'.heap[b]? =w.heap[b]?) (hr:Ro w N ν id o):Ro w' N' ν' id (o.sub i by_):=by
 cases o with
 |cells t cs=>
  obtain ⟨b,arr,e,h1,h2,h3⟩:=hr
  refine ⟨b,arr,e,?_,?_,h3.sub m hν hby⟩
  ·rw[hν id hid (by rw[h1];simp[undef]),h1]
  ·rw[hb b (by rw[h1];exact .leaf rfl)];exact h2
 |row t sz rows=>
  obtain ⟨A,c,cells,h1,h2,h3,h4,h5,h6⟩:=hr
  have e:ν' id=ν id:=hν id hid (by rw[h1];simp[undef])
  refine ⟨A,c,cells,by rw[e,h1],h2.mv m,h3,h4,h5,?_⟩
  rw[e]
  exact eR h6 fun b h=>hb b (.leaf h)
 |tree t sz fs rows=>
  obtain ⟨bs,h1,h2⟩:=hr
  refine ⟨bs,?_,h2⟩
  rw[hν id hid h1.ne]
  exact h1.keep fun b g=>hb b ((h1.ow b).2 g)
 |map t tk es=>
  obtain ⟨r,arr,clock,h1,h2,h3,hB⟩:=hr
  exact ⟨r,arr,clock,by rw[hν id hid (by rw[h1];simp[undef]),h1],by rw[hb r (by rw[h1];exact .leaf rfl)];exact h2,h3.sub m hν hby,hB⟩
theorem kS (l:List (Nat×AO)) (i j:Nat) (x:AO):look (re i x l) j=if j=i then (look l i).map (fun _=>x) else look l j:=by
 induction l with
 |nil=>simp[re,look]
 |cons p l ih=>
  obtain ⟨k,o⟩:=p
  by_cases hki:k=i
  ·subst hki
   simp only[re,iq,cond_true,look]
   by_cases hj:j=k
   ·subst hj;simp[iq]
   ·simp[gy hj,hj]
  ·simp only[re,gy hki,cond_false,look]
   by_cases hj:j=k
   ·subst hj;simp[iq,hki]
   ·simp only[gy hj,cond_false,ih]
    by_cases hji:j=i
    ·subst hji;simp[gy hj]
    ·simp[hji]
theorem oI (l:List (Nat×AO)) (i j:Nat) (b:AV):look (tB i b l) j=(look l j).map (AO.sub i b):=by
 induction l with
 |nil=>rfl
 |cons p l ih=>
  obtain ⟨k,o⟩:=p
  simp only[tB,look]
  cases Nat.beq j k<;>simp[ih]
theorem rX {α:Type} (l:List (Nat×α)) (i j:Nat):look (del i l) j=if j=i then none else look l j:=by
 induction l with
 |nil=>simp[del,look]
 |cons p l ih=>
  obtain ⟨k,o⟩:=p
  simp only[del]
  by_cases hki:k=i
  ·subst hki
   simp only[iq,cond_true,ih,look]
   by_cases hj:j=k
   ·simp[hj]
   ·simp[hj,gy hj]
  ·simp only[gy hki,cond_false,look]
   by_cases hj:j=k
   ·subst hj;simp[iq,hki]
   ·simp only[gy hj,cond_false,ih]
theorem Hp.new (hp:Hp N0 w ν h) (hsz:w.heap.size≤w'.heap.size) (hb:∀b,b<w.heap.size→w'.heap[b]? =w.heap[b]?) {val:Value} (hval:val≠undef)
 (hblk:∀b,Ow val b→w.heap.size≤b∧b<w'.heap.size) {o:AO}
 (hro:Mv w (nN N0 ν) w' (nN N0 (dh ν h.nx val))→(∀id,ν id≠undef→dh ν h.nx val id=ν id)→Ro w' (nN N0 (dh ν h.nx val)) (dh ν h.nx val) h.nx o):
 Hp N0 w' (dh ν h.nx val) (h.new o)∧Mv w (nN N0 ν) w' (nN N0 (dh ν h.nx val))∧∀id,ν id≠undef→dh ν h.nx val id=ν id:=by
 have hν:∀id,ν id≠undef→dh ν h.nx val id=ν id:=by
  intro id hid
  have:id≠h.nx:=fun e=>hid (by rw[e];exact hp.dom _ (Nat.le_refl _))
  simp[dh,this]
 have hup:∀i b,Ow (dh ν h.nx val i) b→(i=h.nx∧Ow val b)∨(i≠h.nx∧Ow (ν i) b):=by
  intro i b g
  by_cases e:i=h.nx
  ·exact .inl ⟨e,by simpa [dh,e] using g⟩
  ·exact .inr ⟨e,by simpa [dh,e] using g⟩
 have m:Mv w (nN N0 ν) w' (nN N0 (dh ν h.nx val)):=hp.mvN hsz (fun _=>False) (fun b hlt _=>hb b hlt) (fun _ h=>h.elim) (by
  intro id b g
  rcases hup id b g with ⟨_,g⟩|⟨_,g⟩
  ·exact .inr (hblk b g).1
  ·exact .inl g)
 refine ⟨⟨?_,?_,?_,?_,fun b hb'=>Nat.lt_of_lt_of_le (hp.n0 b hb') hsz,?_,hp.lw.mv (fun b _ hlt=>hb b hlt)⟩,m,hν⟩
 ·intro id o' hl
  simp only[Heap.new,look] at hl
  by_cases e:id=h.nx
  ·subst e
   rw[iq] at hl
   simp only[cond_true,Option.some.injEq] at hl
   subst hl
   exact hro m hν
  ·rw[gy e] at hl
   exact Ro.keep m hν (fun b g=>hb b (hp.bnd id b g)) (hp.objs id o' hl)
 ·intro i j b gi gj
  rcases hup i b gi with ⟨e1,g1⟩|⟨e1,g1⟩<;>rcases hup j b gj with ⟨e2,g2⟩|⟨e2,g2⟩
  ·rw[e1,e2]
  ·have:=(hblk b g1).1;have:=hp.bnd j b g2;omega
  ·have:=(hblk b g2).1;have:=hp.bnd i b g1;omega
  ·exact hp.inj i j b g1 g2
 ·intro i b g
  rcases hup i b g with ⟨_,g⟩|⟨_,g⟩
  ·exact (hblk b g).2
  ·exact Nat.lt_of_lt_of_le (hp.bnd i b g) hsz
 ·intro i hi
  simp only[Heap.new] at hi
  have:i≠h.nx:=by omega
  simp only[dh,this,if_false]
  exact hp.dom i (by omega)
 ·intro i b g hN
  rcases hup i b g with ⟨_,g⟩|⟨_,g⟩
  ·have:=(hblk b g).1;have:=hp.n0 b hN;omega
  ·exact hp.dis i b g hN
theorem St.new (s:St q N0 w0 Nf n ν0 σ h a w ν) (hk:Kp (fun _=>False) w w') {val:Value} (hval:val≠undef)
 (hblk:∀b,Ow val b→w.heap.size≤b∧b<w'.heap.size) {o:AO}
 (hro:Mv w (nN N0 ν) w' (nN N0 (dh ν h.nx val))→(∀id,ν id≠undef→dh ν h.nx val id=ν id)→Ro w' (nN N0 (dh ν h.nx val)) (dh ν h.nx val) h.nx o)
 (d:Option Nat) {r:AV} {v:Value} (hr:Rv w' (nN N0 (dh ν h.nx val)) (dh ν h.nx val) [r] [v]):
 St q N0 w0 Nf n ν0 (σ.putO n d r) (h.new o) (a.put d v) w' (dh ν h.nx val):=by
 obtain ⟨hp,m,hν⟩:=s.hp.new hk.size (fun b hb=>hk.blk b hb (fun h=>h)) hval hblk hro
 refine ⟨dm (fun k=>(s.slots k).mv m hν) s.size d hr,hp,s.kp.trans hk (fun _ _ h=>h.elim),?_,by rw[eC,s.size],?_,?_,⟨Nat.le_succ_of_le s.low.1,s.low.2⟩⟩
 ·intro i b g
  by_cases e:i=h.nx
  ·have:Ow val b:=by simpa [dh,e] using g
   exact .inl (Nat.le_trans s.kp.size (hblk b this).1)
  ·exact s.fresh i b (by simpa [dh,e] using g)
 ·rw[c9]
  refine s.defers.mv (fun b hb _=>hk.blk b hb (fun h=>h)) (fun i b g=>?_)
  by_cases e:i=h.nx
  ·exact .inr (hblk b (by simpa [dh,e] using g)).1
  ·exact .inl ⟨i,by simpa [dh,e] using g⟩
 ·refine ⟨fun i h1 h2=>?_,fun hf i h1=>?_⟩
  ·have:i≠h.nx:=fun e=>h1 (s.low.2 i (by rw[e];exact s.low.1))
   simp only[dh,this,if_false]
   exact s.keep.1 i h1 h2
  ·have:i≠h.nx:=fun e=>h1 (s.low.2 i (by rw[e];exact s.low.1))
   simp only[dh,this,if_false]
   exact s.keep.2 hf i h1
theorem St.seen (s:St q N0 w0 Nf n ν0 σ h a w ν) (hk:Kp (fun _=>False) w w') (d:Option Nat) {r:AV} {v:Value} (hr:Rv w' (nN N0 ν) ν [r] [v]):
 St q N0 w0 Nf n ν0 (σ.putO n d r) h (a.put d v) w' ν:=by
 have hb:∀b,b<w.heap.size→w'.heap[b]? =w.heap[b]? :=fun b hb=>hk.blk b hb (fun h=>h)
 have m:Mv w (nN N0 ν) w' (nN N0 ν):=⟨hk.size,fun b hlt hN=>⟨hN,hb b hlt⟩⟩
 refine ⟨dm (fun k=>(s.slots k).mv m (fun _ _=>rfl)) s.size d hr,?_,s.kp.trans hk (fun _ _ h=>h.elim),s.fresh,by rw[eC,s.size],by rw[c9];exact s.defers.mv (fun b hlt _=>hb b hlt) (fun i b g=> .inl ⟨i,g⟩),s.keep,s.low⟩
 exact ⟨fun id o hl=>Ro.keep m (fun _ _=>rfl) (fun b g=>hb b (s.hp.bnd id b g)) (s.hp.objs id o hl),s.hp.inj,fun i b g=>Nat.lt_of_lt_of_le (s.hp.bnd i b g) hk.size,s.hp.dom,
  fun b hb'=>Nat.lt_of_lt_of_le (s.hp.n0 b hb') hk.size,s.hp.dis,s.hp.lw.mv (fun b _ hlt=>hb b hlt)⟩
def gh (v:Value):Value:= .agg #[ad v]
@[simp] theorem Gi {v:Value} {b:Nat}:¬Ow (gh v) b:=by
  intro h
  cases h with
  |leaf h=>cases h
@[simp] theorem wa {v:Value}:ad (gh v)=ad v:=rfl
theorem Same.gh {v:Value} (h:∃A n c,ad v= .slice A n c):Same v (gh v):=by
 obtain ⟨A,n,c,e⟩:=h
 exact .inr ⟨A,n,c,e,by rw[wa,e]⟩
theorem F7 {v:Value}:Same v v:= .inl rfl
theorem Ro.map {N N':Nat→Prop} (m:Mv w N w' N') {f:Nat→Option Nat} (hν:∀id j,f id=some j→ν id≠undef→Same (ν id) (ν' j)) {id j:Nat} {o:AO} (e:ν' j=ν id)
 (hb:∀b,Ow (ν id) b→w'.heap[b]? =w.heap[b]?) (hr:Ro w N ν id o):Ro w' N' ν' j (o.map' f):=by
 cases o with
 |cells t cs=>
  obtain ⟨b,arr,e',h1,h2,h3⟩:=hr
  exact ⟨b,arr,e',by rw[e,h1],by rw[hb b (by rw[h1];exact .leaf rfl)];exact h2,h3.map m hν⟩
 |row t sz rows=>
  obtain ⟨A,c,cells,h1,h2,h3,h4,h5,h6⟩:=hr
  refine ⟨A,c,cells,by rw[e,h1],h2.mv m,h3,h4,h5,?_⟩
  rw[e]
  exact eR h6 fun b h=>hb b (.leaf h)
 |tree t sz fs rows=>
  obtain ⟨bs,h1,h2⟩:=hr
  refine ⟨bs,?_,h2⟩
  rw[e]
  exact h1.keep fun b g=>hb b ((h1.ow b).2 g)
 |map t tk es=>
  obtain ⟨r,arr,clock,h1,h2,h3,hB⟩:=hr
  exact ⟨r,arr,clock,by rw[e,h1],by rw[hb r (by rw[h1];exact .leaf rfl)];exact h2,h3.map m hν,hB⟩
theorem St.turn (s:St q N0 w0 Nf n ν0 σ h a w ν) {h':Heap} {σ':Env} {a':Act} (B:Nat→Prop) (hB:∀b,B b→∃i,Ow (ν i) b) (hk:Kp B w w')
 (hslots:Mv w (nN N0 ν) w' (nN N0 ν')→∀k,Rv w' (nN N0 ν') ν' [σ' k] [a'.tmps.getD k undef])
 (hobjs:Mv w (nN N0 ν) w' (nN N0 ν')→∀id o,look h'.objs id=some o→Ro w' (nN N0 ν') ν' id o)
 (hinj:∀i j b,Ow (ν' i) b→Ow (ν' j) b→i=j) (hown:∀i b,Ow (ν' i) b→b<w'.heap.size∧((∃j,Ow (ν j) b)∨w.heap.size≤b))
 (hdom:∀i,h'.nx≤i→ν' i=undef) (hsz:a'.tmps.size=a.tmps.size) (hdf:a'.defers=a.defers)
 (hkeep:(∀i,ν0 i≠undef→(∀A m c,ad (ν0 i)≠ .slice A m c)→ν' i=ν0 i)∧(q.fx=true→∀i,ν0 i≠undef→ad (ν' i)=ad (ν0 i))) (hlo:h'.lo=h.lo) (hnx:h.nx≤h'.nx):
 St q N0 w0 Nf n ν0 σ' h' a' w' ν':=by
 have hnb:∀b,N0 b→¬B b:=fun b g hb=>by obtain ⟨i,hi⟩:=hB b hb;exact s.hp.dis i b hi g
 have m:Mv w (nN N0 ν) w' (nN N0 ν'):=by
  refine ⟨hk.size,fun b hlt hN=>⟨?_,hk.blk b hlt (fun g=>hN (.inr (hB b g)))⟩⟩
  rintro (g|⟨i,g⟩)
  ·exact hN (.inl g)
  ·rcases (hown i b g).2 with g'|g'
   ·exact hN (.inr g')
   ·omega
 refine ⟨hslots m,⟨hobjs m,hinj,fun i b g=>(hown i b g).1,hdom,fun b g=>Nat.lt_of_lt_of_le (s.hp.n0 b g) hk.size,fun i b g hN=>?_,s.hp.lw.mv (fun b g hlt=>hk.blk b hlt (hnb b g))⟩,
  s.kp.trans hk (fun x hx g=>?_),fun i b g=>?_,by rw[hsz,s.size],?_,hkeep,by rw[hlo];exact ⟨Nat.le_trans s.low.1 hnx,s.low.2⟩⟩
 ·rcases (hown i b g).2 with ⟨j,g'⟩|g'
  ·exact s.hp.dis j b g' hN
  ·have:=s.hp.n0 b hN;omega
 ·obtain ⟨i,hi⟩:=hB x g
  rcases s.fresh i x hi with g|g
  ·omega
  ·exact g
 ·rcases (hown i b g).2 with ⟨j,g'⟩|g'
  ·exact s.fresh j b g'
  ·left;have:=s.kp.size;omega
 ·rw[hdf]
  exact s.defers.mv (fun b hlt hn=>hk.blk b hlt (fun g=>by obtain ⟨i,hi⟩:=hB b g;exact hn i hi)) (fun i b g=>(hown i b g).2)
theorem anyN {ks:List Nat} {i:Nat}:ks.any (Nat.beq i)=true↔i∈ks:=by
 simp only[List.any_eq_true]
 constructor
 ·rintro ⟨x,hx,e⟩;rw[Nat.eq_of_beq_eq_true e];exact hx
 ·intro h;exact ⟨i,h,iq i⟩
theorem sc {ks:List Nat} {i j:Nat} (h:kr ks i=some j):j=i∧i ∉ ks:=by
 unfold kr at h
 cases e:ks.any (Nat.beq i)<;>rw[e] at h
 ·simp only[cond_false,Option.some.injEq] at h
  refine ⟨h.symm,fun g=>?_⟩
  rw[anyN.2 g] at e
  cases e
 ·cases h
theorem kR (ks:List Nat) (l:List (Nat×AO)) (j:Nat):look (k9 ks l) j=bif ks.any (Nat.beq j) then none else (look l j).map (AO.unn ks):=by
 induction l with
 |nil=>simp[k9,look]
 |cons p l ih=>
  obtain ⟨k,o⟩:=p
  simp only[k9]
  cases hk:ks.any (Nat.beq k) with
  |true=>
   simp only[cond_true,ih,look]
   by_cases e:j=k
   ·subst e;rw[hk];rfl
   ·rw[gy e];rfl
  |false=>
   simp only[cond_false,look]
   by_cases e:j=k
   ·subst e;rw[iq,hk];rfl
   ·rw[gy e];exact ih
def gc (ν:Nat→Value) (id:Nat) (val:Value) (ks:List Nat):Nat→Value:=fun i=>if i=id then val else if i∈ks then gh (ν i) else ν i
theorem dX {id:Nat} {val:Value} {ks:List Nat}:gc ν id val ks id=val:=by simp[gc]
theorem St.absorb (s:St q N0 w0 Nf n ν0 σ h a w ν) {id nx:Nat} {val:Value} {ks fz:List Nat} {o:AO} {objs:List (Nat×AO)} (hnx:h.nx≤nx) (hid:id<nx) (hk:Kp (fun b=>Ow (ν id) b) w w')
 (hval:∀b,Ow val b→b<w'.heap.size∧(Ow (ν id) b∨(∃k∈ks,Ow (ν k) b)∨w.heap.size≤b)) (hks:∀k∈ks,∃A n c,ad (ν k)= .slice A n c) (hkid:id ∉ ks)
 (hfz:id∈fz∨ν id=undef∨Same (ν id) val) (hk0:ν0 id≠undef→(∃A n c,ad (ν0 id)= .slice A n c)∧(q.fx=true→ad val=ad (ν0 id)))
 (hro:Mv w (nN N0 ν) w' (nN N0 (gc ν id val ks))→Ro w' (nN N0 (gc ν id val ks)) (gc ν id val ks) id o)
 (hobjs:∀j o',look objs j=some o'→(j=id∧o'=o)∨(j≠id∧j ∉ ks∧∃o'',look h.objs j=some o''∧o'=o''.map' (kr fz)))
 (d:Option Nat) {r:AV} {v:Value} (hr:Mv w (nN N0 ν) w' (nN N0 (gc ν id val ks))→Rv w' (nN N0 (gc ν id val ks)) (gc ν id val ks) [r] [v]):
 St q N0 w0 Nf n ν0 ((Env.ren (.tsub fz) σ).putO n d r) ⟨objs,nx,h.lo⟩ (a.put d v) w' (gc ν id val ks):=by
 have hcase:∀i b,Ow (gc ν id val ks i) b→(i=id∧Ow val b)∨(i≠id∧i ∉ ks∧Ow (ν i) b):=by
  intro i b g
  unfold gc at g
  split at g
  ·rename_i e;exact .inl ⟨e,g⟩
  ·split at g
   ·exact absurd g Gi
   ·rename_i e e2;exact .inr ⟨e,e2,g⟩
 have hν:∀i j,kr fz i=some j→ν i≠undef→Same (ν i) (gc ν id val ks j):=by
  intro i j hf hne
  obtain ⟨rfl,hi⟩:=sc hf
  unfold gc
  split
  ·rename_i e
   subst e
   rcases hfz with g|g|g
   ·exact absurd g hi
   ·exact absurd g hne
   ·exact g
  ·split
   ·rename_i e2;exact Same.gh (hks _ e2)
   ·exact .inl rfl
 refine s.turn (fun b=>Ow (ν id) b) (fun b g=>⟨id,g⟩) hk (fun m=>?_) (fun m=>?_) ?_ ?_ ?_ (eC _ _ _) (c9 _ _ _) ?_ rfl hnx
 ·refine dm (fun k=>?_) s.size d (hr m)
  have:=(s.slots k).map m hν
  simp only[aM] at this
  exact this
 ·intro j o' hl
  rcases hobjs j o' hl with ⟨rfl,rfl⟩|⟨h1,h2,o'',h3,rfl⟩
  ·exact hro m
  ·refine Ro.map m hν (by simp[gc,h1,h2]) (fun b g=>hk.blk b (s.hp.bnd j b g) (fun g'=>h1 (s.hp.inj j id b g g'))) (s.hp.objs j o'' h3)
 ·intro i j b gi gj
  rcases hcase i b gi with ⟨e1,g1⟩|⟨e1,e1',g1⟩<;>rcases hcase j b gj with ⟨e2,g2⟩|⟨e2,e2',g2⟩
  ·rw[e1,e2]
  ·rcases (hval b g1).2 with g|⟨k,hk',g⟩|g
   ·exact absurd (s.hp.inj _ _ b g g2) (fun e=>e2 e.symm)
   ·exact absurd (s.hp.inj _ _ b g g2) (fun e=>e2' (e▸hk'))
   ·have:=s.hp.bnd j b g2;omega
  ·rcases (hval b g2).2 with g|⟨k,hk',g⟩|g
   ·exact absurd (s.hp.inj _ _ b g g1) (fun e=>e1 e.symm)
   ·exact absurd (s.hp.inj _ _ b g g1) (fun e=>e1' (e▸hk'))
   ·have:=s.hp.bnd i b g1;omega
  ·exact s.hp.inj i j b g1 g2
 ·intro i b g
  rcases hcase i b g with ⟨e1,g1⟩|⟨e1,e1',g1⟩
  ·obtain ⟨h1,h2⟩:=hval b g1
   exact ⟨h1,h2.elim (fun g=> .inl ⟨_,g⟩) (fun g=>g.elim (fun ⟨k,_,g⟩=> .inl ⟨k,g⟩) .inr)⟩
  ·exact ⟨Nat.lt_of_lt_of_le (s.hp.bnd i b g1) hk.size,.inl ⟨i,g1⟩⟩
 ·intro i hi
  simp only at hi
  have h1:i≠id:=by omega
  have h2:i ∉ ks:=fun g=>by
   obtain ⟨A,n',c,e⟩:=hks i g
   exact ei e (s.hp.dom i (by omega))
  simp only[gc,h1,h2,if_false]
  exact s.hp.dom i (by omega)
 ·refine ⟨fun i h1 h2=>?_,fun hf i h1=>?_⟩
  ·have e:=s.keep.1 i h1 h2
   unfold gc
   split
   ·rename_i e2
    subst e2
    obtain ⟨A,n',c,e3⟩:=(hk0 h1).1
    exact absurd e3 (h2 _ _ _)
   ·split
    ·rename_i e3
     obtain ⟨A,n',c,e4⟩:=hks i e3
     rw[e] at e4
     exact absurd e4 (h2 _ _ _)
    ·exact e
  ·have e:=s.keep.2 hf i h1
   unfold gc
   split
   ·rename_i e2
    subst e2
    exact (hk0 h1).2 hf
   ·split
    ·rw[wa];exact e
    ·exact e
end
end Go.Vc
end
section
namespace Go.Vc
def Fc:AV→Value→Bool
 | .d (.int k n),.int k' n'=>fK k k'&&decide (n=n')
 | .d (.bool b),.bool b'=>b==b'
 | .d (.str []),.string s=>s.data.toList.isEmpty
 | .nils,.slice none 0 0=>true
 | .val .nilFunc,.nilFunc=>true
 | .val .nilIface,.nilIface=>true
 | .val (.pointer none),.pointer none=>true
 | .val (.map none),.map none=>true
 |_,_=>false
def jT:List AV→List Value→Bool
 |[],[]=>true
 |a::as,v::vs=>Fc a v&&jT as vs
 |_,_=>false
def d9:TK→TypeDesc→Bool
 | .int k,.int k'=>fK k k'
 | .bool,.bool=>true
 | .str,.string=>true
 | .slice e,.slice e'=>Nat.beq e e'
 | .struct fs,.struct fields=>decide (fields.toList.map (fun f=>(f.offset,f.type))=fs)
 | .map k e,.map k' e'=>Nat.beq k k'&&Nat.beq e e'
 | .array n e,.array n' e'=>Nat.beq n n'&&Nat.beq e e'
 | .iface,.interface _=>true
 | .ptr,.pointer _=>true
 | .func,.func _ _ _=>true
 |_,_=>false
def DE (i:TypeInfo):String×FuncId→Bool
 |(name,f)=>match i.methods.find? (·.name==name) with
  |some m=>m.path.isEmpty&&(match m.func with|some (f',p)=>Nat.beq f f'&& !p|none=>false)
  |none=>false
def GL (P:Program) (t:TypeId) (ti:TI):Bool:=
 match P.info? t,P.underlying t with
 |some i,some d=>Nat.beq i.size ti.size&&Nat.beq i.bytes ti.bytes&&(match i.zero with|some z=>jT ti.zero z.cells.toList&&Nat.beq z.cells.size ti.size&&(match z with| .agg _=>ti.isAgg|_=> !ti.isAgg)|none=>false)&&
   d9 ti.kind d&&(ti.meths.all (DE i))&&(Nat.beq ti.size 1||ti.isAgg)
 |_,_=>false
def strTI:TI:=⟨.str,1,16,[.d (.str [])],[],false,[]⟩
def uy (P:Program) (t:TypeId):Bool:=match P.underlying t with
 |some (.struct fs)=>match fs.toList with
  |[f,g]=> !(f.name== "_")&& !(g.name== "_")&&Nat.beq f.offset 0&&Nat.beq g.offset 1&&GL P f.type strTI&&GL P g.type strTI&& !P.stoodInHeld t
  |_=>false
 |_=>false
def bu (P:Program):List (Nat×TI)→Bool
 |[]=>true
 |(t,ti)::r=>GL P t ti&&(!ti.pair||uy P t)&&zM ti.nts&&bu P r
theorem kindEq_iff {a b:IntKind}:fK a b=true↔a=b:=by cases a<;>cases b<;>simp[fK]
structure fc (P:Program) (t:TypeId) (ti:TI):Prop where
 info:∃i z,P.info? t=some i∧i.size=ti.size∧i.bytes=ti.bytes∧i.zero=some z∧jT ti.zero z.cells.toList=true∧z.cells.size=ti.size∧ti.meths.all (DE i)=true∧(match z with| .agg _=>ti.isAgg|_=> !ti.isAgg)=true
 kind:∃d,P.underlying t=some d∧d9 ti.kind d=true
 one:ti.isAgg=false→ti.size=1
 pr:ti.pair=true→uy P t=true
 nts:zM ti.nts=true
theorem ae {P:Program}:∀{T:List (Nat×TI)},bu P T=true→∀{t ti},look T t=some ti→fc P t ti
 |[],_,_,_,h=>by simp[look] at h
 |(k,x)::r,hb,t,ti,h=>by
  simp only[bu,Bool.and_eq_true] at hb
  simp only[look] at h
  by_cases e:t=k
  ·subst e
   rw[iq] at h
   simp only[cond_true,Option.some.injEq] at h
   subst h
   have hp:=hb.1.1.2
   have hnt:=hb.1.2
   have:=hb.1.1.1
   unfold GL at this
   split at this
   ·rename_i i d hi hd
    simp only[Bool.and_eq_true] at this
    obtain ⟨⟨⟨⟨⟨h1,h2⟩,h3⟩,h4⟩,h5⟩,h6⟩:=this
    split at h3
    ·rename_i z hz
     simp only[Bool.and_eq_true] at h3
     exact ⟨⟨i,z,hi,Nat.eq_of_beq_eq_true h1,Nat.eq_of_beq_eq_true h2,hz,h3.1.1,Nat.eq_of_beq_eq_true h3.1.2,h5,h3.2⟩,⟨d,hd,h4⟩,fun hf=>by
      rw[hf,Bool.or_false] at h6;exact Nat.eq_of_beq_eq_true h6,fun hq=>by rw[hq] at hp;simpa using hp,hnt⟩
    ·cases h3
   ·cases this
  ·rw[gy e] at h
   exact ae hb.2 h
theorem fB {w:World} {N:Nat→Prop} {ν:Nat→Value}:∀{as:List AV} {vs:List Value},jT as vs=true→Rv w N ν as vs
 |[],[],_=> .nil
 |[],_::_,h=>by simp[jT] at h
 |_::_,[],h=>by simp[jT] at h
 |a::as,v::vs,h=>by
  simp only[jT,Bool.and_eq_true] at h
  have ih:=fB (w:=w) (N:=N) (ν:=ν) h.2
  have h1:=h.1
  unfold Fc at h1
  split at h1
  ·simp only[Bool.and_eq_true,kindEq_iff,decide_eq_true_eq] at h1
   obtain ⟨rfl,rfl⟩:=h1
   exact .d (.int _ _ .nil) ih
  ·simp at h1;subst h1;exact .d (.bool _ .nil) ih
  ·rename_i s
   have:s=fe []:=by
    obtain ⟨⟨l⟩⟩:=s
    simp at h1
    subst h1;rfl
   subst this
   exact .d (.str [] (Nat.zero_le _) .nil) ih
  ·exact .nils ih
  ·exact .val _ ih
  ·exact .val _ ih
  ·exact .val _ ih
  ·exact .val _ ih
  ·cases h1
section
variable {P:Program} {t:TypeId} {ti:TI} {w:World}
theorem oy (k:fc P t ti):(isAgg t).run P w= .ok ti.isAgg w:=by
 obtain ⟨d,h1,h2⟩:=k.kind
 simp only[isAgg,Sem.run_bind,run_underlying h1,Result.andThen_ok]
 unfold d9 at h2
 split at h2<;>simp_all [TI.isAgg]
theorem bz (k:fc P t ti):(sizeOf t).run P w= .ok ti.size w:=by
 obtain ⟨i,z,h1,h2,_⟩:=k.info
 simp[sizeOf,typeInfo,h1,h2]
theorem rj (k:fc P t ti):∃z,(zeroValue t).run P w= .ok z w∧jT ti.zero z.cells.toList=true∧z.cells.size=ti.size:=by
 obtain ⟨i,z,h1,h2,_,h3,h4,h5,_⟩:=k.info
 exact ⟨z,by simp[zeroValue,typeInfo,h1,h3],h4,h5⟩
theorem jo (k:fc P t ti) (b o:Nat) (cs:List Value) (hlen:cs.length=ti.size) (hc:∀(j:Nat) v,cs[j]? =some v→w.cell? ⟨b,o+j,none⟩=some v):
 (loadVar t ⟨b,o,none⟩).run P w= .ok (if ti.isAgg then .agg cs.toArray else cs.getD 0 undef) w:=by
 have hl:=run_loadCells_list (P:=P) w ⟨b,o,none⟩ cs (fun j v hv=>by rw[Addr.add_lit];exact hc j v hv)
 rw[hlen] at hl
 simp only[loadVar,Sem.run_bind,oy k,Result.andThen_ok]
 cases hag:ti.isAgg with
 |true=>simp[bz k,hl]
 |false=>
  have h1:=k.one hag
  cases cs with
  |nil=>simp at hlen;omega
  |cons c cs=>
   have h2:=hc 0 c rfl
   rw[Nat.add_zero] at h2
   simp[h2]
end
end Go.Vc
end
section
namespace Go.Vc
abbrev G (ro:Option Nat):Fence:={Fence.wide with round:=ro}
theorem kN {P:Program} {ro:Option Nat} {o:Oper} {ρ:Operand→Value} {w w':World} {x:Next} (hx:∀d,x≠ .defer d) (hr:(execOp ρ o).run P w= .ok x w'):(o.semAt ro ρ).run P w= .ok x w':=by
 rw[Oper.semAt_eq]
 ·exact hr
 ·intro c hc
  unfold execOp at hr
  rw[hc] at hr
  simp only[Sem.run_bind] at hr
  cases h:(resolve ρ c o.type).run P w with
  |ok d w1=>
   rw[h] at hr
   simp only[Result.andThen_ok,Sem.run_pure,Result.ok.injEq] at hr
   exact hx d hr.1.symm
  |halt d w1=>rw[h] at hr;cases hr
theorem bw {P:Program} {ro:Option Nat} {o:Oper} {a:Act} {w w':World} {v:Value} {next:Act→World→Prop} {Q:Exit→Act→World→Prop}
 (hr:(execOp a.eval o).run P w= .ok (.value v) w') (h:next (a.put o.dst v) w'):o.wpIn (G ro) 0 P a w next Q:=by
 refine ⟨fun _ _=>trivial,?_⟩
 have e:=kN (ro:=ro) (fun d h=>by cases h) hr
 show o.uponIn (G ro) 0 P a next Q ((o.semAt ro a.eval).run P w)
 rw[e];exact h
theorem jV {P:Program} {ro:Option Nat} {o:Oper} {a:Act} {w w':World} {next:Act→World→Prop} {Q:Exit→Act→World→Prop}
 (hr:(execOp a.eval o).run P w= .ok .skip w') (h:next (a.put o.dst undef) w'):o.wpIn (G ro) 0 P a w next Q:=by
 refine ⟨fun _ _=>trivial,?_⟩
 have e:=kN (ro:=ro) (fun d h=>by cases h) hr
 show o.uponIn (G ro) 0 P a next Q ((o.semAt ro a.eval).run P w)
 rw[e];exact h
theorem FT {P:Program} {ro:Option Nat} {n:Nat} {f:FuncId} {args:Array Value} {w:World} {R:Ending→World→Prop} (h:Calls P f args w R):CallsIn (G ro) n P f args w R:=by
 have h':CallsIn Fence.wide n P f args w R:=callsIn_wide.2 h
 cases ro with
 |none=>exact h'
 |some l=>exact CallsIn.inRound l h'
theorem gT {P:Program} {ro:Option Nat} {o:Oper} {a:Act} {w w':World} {f:FuncId} {args:Array Value} {next:Act→World→Prop} {Q:Exit→Act→World→Prop}
 (hr:(execOp a.eval o).run P w= .ok (.enter f args) w') (h:Calls P f args w' fun e w''=>∃v,e= .returned v∧next (a.put o.dst v) w''):o.wpIn (G ro) 0 P a w next Q:=by
 refine ⟨fun _ _=>trivial,?_⟩
 have e:=kN (ro:=ro) (fun d h=>by cases h) hr
 show o.uponIn (G ro) 0 P a next Q ((o.semAt ro a.eval).run P w)
 rw[e]
 refine ⟨fun h=>by simp[G,Fence.wide] at h,FT (h.mono fun e w'' ⟨v,he,hn⟩=>?_)⟩
 subst he
 exact hn
section
variable {P:Program} {ro:Option Nat} {q:Md} {T:List (Nat×TI)} {S:bX} {N0 Nf:Nat→Prop} {w0 w:World} {n:Nat} {σ:Env} {h:Heap} {a:Act} {ν ν0:Nat→Value} {Q:Exit→Act→World→Prop} {next:Act→World→Prop}
theorem rM (s:ByteArray):fe s.data.toList=s:=by
 obtain ⟨⟨l⟩⟩:=s;rfl
theorem Gk (s:Bs):(fe s).data.toList=s:=rfl
theorem Ec {N:Nat→Prop} (v:Value):Rv w N ν [G6 v] [v]:=by
 unfold G6
 split
 ·exact .d (.int _ _ .nil) .nil
 ·rename_i s
  split
  ·rename_i e
   have:=rM s
   rw[e] at this
   rw[←this]
   exact .d (.str _ (Nat.zero_le _) .nil) .nil
  ·rename_i c r e
   cases hb:Nat.ble (c::r).length ap with
   |true=>
    simp only[cond_true]
    have:=rM s
    rw[e] at this
    rw[←this]
    exact .d (.str _ (Nat.le_of_ble_eq_true hb) .nil) .nil
   |false=>exact .any _ .nil
 ·exact .nils .nil
 ·exact .val _ .nil
theorem ip {N:Nat→Prop} {a:AV} {v:Value} (h:Rv w N ν [a] [v]):Rv w N ν [li a] [v]:=by
 unfold li
 split
 ·cases h;exact .d (.bool _ .nil) .nil
 ·exact h
theorem yf {N:Nat→Prop}:∀{as:List AV} {vs:List Value},Rv w N ν as vs→Rv w N ν (as.map li) vs
 |[],_,h=>by cases h;exact .nil
 |a::as,vs,h=>by
  obtain ⟨v,r,rfl,h1,h2⟩:=h.cons_inv
  exact (ip h1).cons (yf h2)
theorem eP {N:Nat→Prop} {u v:Value} (h:Rv w N ν [.val u] [v]):v=u:=by
 cases h;rfl
theorem aE (s:St q N0 w0 Nf n ν0 σ h a w ν) (x:Operand):Rv w (nN N0 ν) ν [ev σ x] [a.eval x]:=by
 cases x with
 |tmp t=>exact s.slots t
 |const v=>exact Ec v
 |func f=>exact .fn (cs:=[]) f [] .nil .nil
 |global g=>exact .any _ .nil
theorem kC (s:St q N0 w0 Nf n ν0 σ h a w ν):∀(xs:List Operand),Rv w (nN N0 ν) ν (xs.map (ev σ)) (xs.map a.eval)
 |[]=> .nil
 |x::xs=>(aE s x).cons (kC s xs)
variable {N:Nat→Prop}
theorem cj {b:Bool} {v:Value} (h:Rv w N ν [.d (.bool b)] [v]):v= .bool b:=by
 cases h with|d h _=>cases h;rfl
theorem cZ {k:IntKind} {m:Int} {v:Value} (h:Rv w N ν [.d (.int k m)] [v]):v= .int k m:=by
 cases h with|d h _=>cases h;rfl
theorem fj {s:Bs} {v:Value} (h:Rv w N ν [.d (.str s)] [v]):v= .string (fe s)∧s.length≤ap:=by
 cases h with|d h _=>cases h with|str _ h _=>exact ⟨rfl,h⟩
theorem gE {rows:List (List D)} {v:Value} (h:Rv w N ν [.d (.list rows)] [v]):∃A cap sz cells,v= .slice A rows.length cap∧Rd w N rows.flatten cells∧(∀r∈rows,r.length=sz)∧Placed w N A cells∧
 rows.length≤cap∧rows.length≤ap:=by
 cases h with|d h _=>cases h with|list _ A cap sz cells h1 h2 h3 h4 h5 _=>exact ⟨A,cap,sz,cells,rfl,h1,h2,h3,h4,h5⟩
theorem lZ {cs:List AV} {v:Value} (h:Rv w N ν [.agg cs] [v]):∃xs:List Value,v= .agg xs.toArray∧Rv w N ν cs xs:=by
 cases h with|agg xs h _=>exact ⟨xs,rfl,h⟩
theorem Fr {cs:List AV} {v:Value} (h:Rv w N ν [.tup cs] [v]):∃xs:List Value,v= .tuple xs.toArray∧Rv w N ν cs xs:=by
 cases h with|tup xs h _=>exact ⟨xs,rfl,h⟩
theorem lY {id off:Nat} {v:Value} (h:Rv w N ν [.ptr id off] [v]):∃b,v= .pointer (some ⟨b,off,none⟩)∧ν id= .pointer (some ⟨b,0,none⟩):=by
 cases h with|ptr off h _=>exact ⟨_,rfl,h⟩
theorem Da {ds:List D} {v:Value} (h:Rv w N ν [.at_ ds] [v]):∃b o cells,v= .pointer (some ⟨b,o,none⟩)∧cells≠[]∧¬N b∧Rd w N ds cells∧
 ∀(j:Nat) v,cells[j]? =some v→w.cell? ⟨b,o+j,none⟩=some v:=by
 cases h with
 |at_ A cells h0 h1 h2 _=>
  rcases h2 with h2|⟨b,o,h2,h3,h4⟩
  ·exact absurd h2 h0
  ·obtain rfl:A=⟨b,o,none⟩:=by injection h2
   exact ⟨b,o,cells,rfl,h0,h3,h1,h4⟩
theorem mZ {id i sz off:Nat} {v:Value} (h:Rv w N ν [.rptr id i sz off] [v]):∃b m c,v= .pointer (some ⟨b,i*sz+off,none⟩)∧ad (ν id)= .slice (some ⟨b,0,none⟩) m c∧i<m:=by
 cases h with|rptr i off sz h hi _=>exact ⟨_,_,_,rfl,h,hi⟩
theorem fF {id:Nat} {v:Value} (h:Rv w N ν [.own id] [v]):v=ad (ν id)∧∃A m c,ad (ν id)= .slice A m c:=by
 cases h with|own h _=>exact ⟨h.symm,_,_,_,h⟩
theorem Ff {f:FuncId} {cs:List AV} {v:Value} (h:Rv w N ν [.fn f cs] [v]):∃xs:List Value,v= .func (.func f) #[] xs.toArray∧Rv w N ν cs xs:=by
 cases h with|fn f xs h _=>exact ⟨xs,rfl,h⟩
theorem Ft {f:FuncId} {cs:List AV} {v:Value} (h:Rv w N ν [.bfn f cs] [v]):∃xs:List Value,v= .func (.func f) xs.toArray #[]∧Rv w N ν cs xs:=by
 cases h with|bfn f xs h _=>exact ⟨xs,rfl,h⟩
theorem ri {t:TypeId} {x:AV} {v:Value} (h:Rv w N ν [.iface t x] [v]):∃u,v= .iface t u∧Rv w N ν [x] [u]:=by
 cases h with|iface t h _=>exact ⟨_,rfl,h⟩
theorem fk {v:Value} (h:Rv w N ν [.nils] [v]):v= .slice none 0 0:=by
 cases h;rfl
theorem fS {ti:TI} {x:AV} {v:Value} {cs:List AV} (h:Rv w N ν [x] [v]) (hc:cellsOf ti x=some cs) (h1:ti.isAgg=false→ti.size=1):
 Rv w N ν cs v.cells.toList∧v.cells.size=ti.size∧cs.length=ti.size∧∀u∈v.cells.toList,u.oneCell'=true:=by
 unfold cellsOf at hc
 split at hc
 ·rename_i cs'
  cases hag:ti.isAgg<;>rw[hag] at hc
  ·cases hc
  ·simp only[cond_true] at hc
   cases hb:(Nat.beq cs'.length ti.size&&oneL cs')<;>rw[hb] at hc
   ·cases hc
   ·simp only[cond_true,Option.some.injEq] at hc
    subst hc
    obtain ⟨xs,rfl,hx⟩:=lZ h
    simp only[Bool.and_eq_true] at hb
    have e:=Nat.eq_of_beq_eq_true hb.1
    have hl:=hx.length
    exact ⟨by simpa [Value.cells] using hx,by simp[Value.cells,hl,e],e,by simpa [Value.cells] using hx.oneL hb.2⟩
 ·cases hag:ti.isAgg<;>rw[hag] at hc
  ·simp only[cond_false] at hc
   cases ho:x.one<;>rw[ho] at hc
   ·cases hc
   ·simp only[cond_true,Option.some.injEq] at hc
    subst hc
    have hv:=h.oneCell ho
    have:v.cells= #[v]:=by cases v<;>first|rfl|simp[Value.oneCell'] at hv
    rw[this]
    refine ⟨by simpa using h,by simp[h1 hag],by simp[h1 hag],by simpa using hv⟩
  ·cases hc
theorem iY {ti:TI} (k:ti.isAgg=false→ti.size=1) {cs:List AV} {xs:List Value} (h:Rv w N ν cs xs) {r:AV} (hl:jM ti cs=some r):
 (xs.take ti.size).length=ti.size∧Rv w N ν [r] [if ti.isAgg then .agg (xs.take ti.size).toArray else (xs.take ti.size).getD 0 undef]:=by
 unfold jM at hl
 have hlen:=h.length
 cases hag:ti.isAgg<;>rw[hag] at hl
 ·simp only[cond_false] at hl
  cases cs with
  |nil=>cases hl
  |cons c cs=>
   obtain ⟨v,r',rfl,h1,_⟩:=h.cons_inv
   simp only[List.head?_cons,Option.some.injEq] at hl
   subst hl
   have:=k hag
   simp[this]
   exact h1
 ·simp only[cond_true] at hl
  cases hb:Nat.ble ti.size cs.length<;>rw[hb] at hl
  ·cases hl
  ·simp only[cond_true,Option.some.injEq] at hl
   subst hl
   have hb':=Nat.le_of_ble_eq_true hb
   exact ⟨by simp;omega,by simp only[if_true];exact .agg _ (h.take _) .nil⟩
theorem yy {ti:TI} (k:ti.isAgg=false→ti.size=1) {cs:List D} {xs:List Value} (h:Rd w N cs xs) {r:AV} (hl:py ti cs=some r):
 (xs.take ti.size).length=ti.size∧Rv w N ν [r] [if ti.isAgg then .agg (xs.take ti.size).toArray else (xs.take ti.size).getD 0 undef]:=by
 have hv:Rv w N ν (cs.map .d) xs:=w8 h
 refine iY k hv ?_
 unfold py at hl
 unfold jM
 simpa [List.map_take] using hl
end
end Go.Vc
end
section
namespace Go.Vc
section
variable {P:Program} {ro:Option Nat} {q:Md} {T:List (Nat×TI)} {S:bX} {N0 Nf:Nat→Prop} {w0 w w':World} {n:Nat} {σ:Env} {h:Heap} {a:Act} {ν ν' ν0:Nat→Value} {Q:Exit→Act→World→Prop} {next:Act→World→Prop}
theorem kb (hp:Hp N0 w ν h) {i:Nat} {rows:List (List D)} (hl:eQ h.objs i=some rows) {N':Nat→Prop} (hN:∀b,N' b→nN N0 ν b)
 (hi:∀b,Ow (ν i) b→¬N' b) {A:Option Addr} {m c:Nat} (hν:ad (ν i)= .slice A m c):Rd w N' [.list rows] [.slice A m c]:=by
 rcases m4 hl with ⟨t,sz,hl⟩|⟨t,sz,fs,hl⟩
 ·obtain ⟨A',c',cells,h1,h2,h3,h4,h5,h6⟩:=hp.objs i _ hl
  rw[h1] at hν
  simp only[ad,Value.slice.injEq] at hν
  obtain ⟨rfl,rfl,rfl⟩:=hν
  rw[h1] at h6
  obtain ⟨p1,p2⟩:=dK (N:=N') h6 (fun b g=>hi b (by rw[h1];exact .leaf g))
  exact .list rows _ _ sz cells (h2.mv ⟨Nat.le_refl _,fun b _ hb=>⟨fun g=>hb (hN b g),rfl⟩⟩) h3 p1 p2 h4 .nil
 ·obtain ⟨bs,h1,h2⟩:=hp.objs i _ hl
  rw[←hν]
  exact h1.rd fun b g=>hi b ((h1.ow b).2 g)
theorem ka (hp:Hp N0 w ν h) {i:Nat} {rows:List (List D)} (hl:eQ h.objs i=some rows):∃A c,ad (ν i)= .slice A rows.length c:=by
 rcases m4 hl with ⟨t,sz,hl⟩|⟨t,sz,fs,hl⟩
 ·obtain ⟨A',c',cells,h1,_⟩:=hp.objs i _ hl
  exact ⟨A',c',by rw[h1];rfl⟩
 ·obtain ⟨bs,h1,_⟩:=hp.objs i _ hl
  exact h1.root
theorem zy {l:List (Nat×AO)} {i j:Nat} {b:AV} (e:j≠i):eQ (tB i b (del i l)) j=eQ l j:=by
 unfold eQ
 rw[oI,rX,if_neg e]
 cases look l j with
 |none=>rfl
 |some o=>cases o<;>rfl
theorem lH {N N':Nat→Prop} (m:Mv w N w' N') {i:Nat} {b:AV} (hν:∀id,id≠i→ν id≠undef→ν' id=ν id) (hb:∀A n c,ad (ν i)= .slice A n c→Rv w' N' ν' [b] [.slice A n c])
 {k:Nat} {v:Value} (h:Rv w N ν [σ k] [v]):Rv w' N' ν' [(Env.sub i b σ) k] [v]:=by
 have:=h.sub m hν hb
 simpa [bj,Env.sub] using this
theorem St.pub (s:St q N0 w0 Nf n ν0 σ h a w ν) {i:Nat} {rows:List (List D)} (hl:eQ h.objs i=some rows):
 St q N0 w0 Nf n ν0 (Env.sub i (.d (.list rows)) σ) ⟨tB i (.d (.list rows)) (del i h.objs),h.nx,h.lo⟩ a w (dh ν i (gh (ν i))):=by
 have hup:∀j b,Ow (dh ν i (gh (ν i)) j) b→j≠i∧Ow (ν j) b:=by
  intro j b g
  by_cases e:j=i
  ·simp[dh,e] at g
  ·exact ⟨e,by simpa [dh,e] using g⟩
 have hN:∀b,nN N0 (dh ν i (gh (ν i))) b→nN N0 ν b:=by
  rintro b (g|⟨j,g⟩)
  ·exact .inl g
  ·exact .inr ⟨j,(hup j b g).2⟩
 have m:Mv w (nN N0 ν) w (nN N0 (dh ν i (gh (ν i)))):=⟨Nat.le_refl _,fun b _ hb=>⟨fun g=>hb (hN b g),rfl⟩⟩
 have hν:∀id,id≠i→ν id≠undef→dh ν i (gh (ν i)) id=ν id:=fun id e _=>by simp[dh,e]
 have hb:∀A n c,ad (ν i)= .slice A n c→Rv w (nN N0 (dh ν i (gh (ν i)))) (dh ν i (gh (ν i))) [.d (.list rows)] [.slice A n c]:=by
  intro A k c e
  refine .d (kb s.hp hl hN ?_ e) .nil
  rintro b g (g'|⟨j,g'⟩)
  ·exact s.hp.dis i b g g'
  ·have:=hup j b g'
   exact this.1 (s.hp.inj j i b this.2 g)
 refine ⟨fun k=>lH m hν hb (s.slots k),⟨?_,?_,?_,?_,s.hp.n0,?_,s.hp.lw⟩,s.kp,?_,s.size,s.defers.mv (fun _ _ _=>rfl) (fun j b g=> .inl ⟨j,(hup j b g).2⟩),?_,s.low⟩
 ·intro id o ho
  rw[oI,rX] at ho
  by_cases e:id=i
  ·rw[if_pos e] at ho;cases ho
  ·rw[if_neg e] at ho
   cases hq:look h.objs id with
   |none=>rw[hq] at ho;cases ho
   |some o'=>
    rw[hq] at ho
    simp only[Option.map_some,Option.some.injEq] at ho
    subst ho
    exact sL m hν hb e (fun _ _=>rfl) (s.hp.objs id o' hq)
 ·exact fun j k b g1 g2=>s.hp.inj j k b (hup j b g1).2 (hup k b g2).2
 ·exact fun j b g=>s.hp.bnd j b (hup j b g).2
 ·intro j hj
  by_cases e:j=i
  ·subst e
   obtain ⟨A,c,g⟩:=ka s.hp hl
   exact absurd (s.hp.dom j hj) (ei g)
  ·simpa [dh,e] using s.hp.dom j hj
 ·exact fun j b g=>s.hp.dis j b (hup j b g).2
 ·exact fun j b g=>s.fresh j b (hup j b g).2
 ·refine ⟨fun j h1 h2=>?_,fun hf j h1=>?_⟩
  ·by_cases e:j=i
   ·subst e
    obtain ⟨A,c,g⟩:=ka s.hp hl
    exact absurd (by rw[←s.keep.1 j h1 h2];exact g) (h2 _ _ _)
   ·simp only[dh,e,if_false]
    exact s.keep.1 j h1 h2
  ·by_cases e:j=i
   ·subst e
    simp only[dh,if_true,wa]
    exact s.keep.2 hf j h1
   ·simp only[dh,e,if_false]
    exact s.keep.2 hf j h1
theorem St.pubs:∀(ids:List Nat) {σ:Env} {l l':List (Nat×AO)} {x y:Nat} {m:List (Nat×AV)} {ν:Nat→Value},St q N0 w0 Nf n ν0 σ ⟨l,x,y⟩ a w ν→pubs ids l=(l',m)→
 ∃ν',St q N0 w0 Nf n ν0 (σ.subs m) ⟨l',x,y⟩ a w ν'∧(∀j,ν' j=ν j∨∀b,¬Ow (ν' j) b)∧∀i∈ids,(∃rows,eQ l i=some rows)→∀b,¬Ow (ν' i) b
 |[],σ,l,l',x,y,m,ν,s,e=>by
  simp only[Vc.pubs,Prod.mk.injEq] at e
  obtain ⟨rfl,rfl⟩:=e
  exact ⟨ν,s,fun _=> .inl rfl,by simp⟩
 |i::is,σ,l,l',x,y,m,ν,s,e=>by
  unfold Vc.pubs at e
  split at e
  ·rename_i rows hl
   generalize hq:Vc.pubs is (tB i (.d (.list rows)) (del i l))=q at e
   obtain ⟨l2,m2⟩:=q
   simp only[Prod.mk.injEq] at e
   obtain ⟨rfl,rfl⟩:=e
   obtain ⟨ν',s',h1,h2⟩:=St.pubs is (s.pub hl) hq
   have hi:∀b,¬Ow (ν' i) b:=by
    rcases h1 i with g|g
    ·rw[g];simp[dh]
    ·exact g
   refine ⟨ν',s',fun j=>?_,?_⟩
   ·by_cases e:j=i
    ·subst e;exact .inr hi
    ·rcases h1 j with g|g
     ·left;rw[g];simp[dh,e]
     ·exact .inr g
   ·intro j hj hrow
    by_cases e:j=i
    ·rw[e];exact hi
    ·refine h2 j ((List.mem_cons.1 hj).resolve_left e) ?_
     rw[zy e]
     exact hrow
  ·rename_i hno
   obtain ⟨ν',s',h1,h2⟩:=St.pubs is s e
   refine ⟨ν',s',h1,fun j hj hrow=>?_⟩
   rcases List.mem_cons.1 hj with rfl|hj
   ·obtain ⟨rows,hr⟩:=hrow
    rw[hno] at hr;cases hr
   ·exact h2 j hj hrow
theorem Rv.pub (s:St q N0 w0 Nf n ν0 σ h a w ν) {i:Nat} {rows:List (List D)} (hl:eQ h.objs i=some rows) {as:List AV} {vs:List Value} (hr:Rv w (nN N0 ν) ν as vs):
 Rv w (nN N0 (dh ν i (gh (ν i)))) (dh ν i (gh (ν i))) (bj i (.d (.list rows)) as) vs:=by
 have hup:∀j b,Ow (dh ν i (gh (ν i)) j) b→j≠i∧Ow (ν j) b:=by
  intro j b g
  by_cases e:j=i
  ·simp[dh,e] at g
  ·exact ⟨e,by simpa [dh,e] using g⟩
 have hN:∀b,nN N0 (dh ν i (gh (ν i))) b→nN N0 ν b:=by
  rintro b (g|⟨j,g⟩)
  ·exact .inl g
  ·exact .inr ⟨j,(hup j b g).2⟩
 have m:Mv w (nN N0 ν) w (nN N0 (dh ν i (gh (ν i)))):=⟨Nat.le_refl _,fun b _ hb=>⟨fun g=>hb (hN b g),rfl⟩⟩
 have hν:∀id,id≠i→ν id≠undef→dh ν i (gh (ν i)) id=ν id:=fun id e _=>by simp[dh,e]
 have hb:∀A n c,ad (ν i)= .slice A n c→Rv w (nN N0 (dh ν i (gh (ν i)))) (dh ν i (gh (ν i))) [.d (.list rows)] [.slice A n c]:=by
  intro A k c e
  refine .d (kb s.hp hl hN ?_ e) .nil
  rintro b g (g'|⟨j,g'⟩)
  ·exact s.hp.dis i b g g'
  ·have:=hup j b g'
   exact this.1 (s.hp.inj j i b this.2 g)
 exact hr.sub m hν hb
theorem sK:∀(ids:List Nat) {σ:Env} {l l':List (Nat×AO)} {x y:Nat} {m:List (Nat×AV)} {ν:Nat→Value},St q N0 w0 Nf n ν0 σ ⟨l,x,y⟩ a w ν→Vc.pubs ids l=(l',m)→
 ∃ν',St q N0 w0 Nf n ν0 (σ.subs m) ⟨l',x,y⟩ a w ν'∧(∀j,ν' j=ν j∨∀b,¬Ow (ν' j) b)∧(∀j,(∀A k c,ad (ν j)≠ .slice A k c)→ν' j=ν j)∧∀as vs,Rv w (nN N0 ν) ν as vs→Rv w (nN N0 ν') ν' (sN m as) vs
 |[],σ,l,l',x,y,m,ν,s,e=>by
  simp only[Vc.pubs,Prod.mk.injEq] at e
  obtain ⟨rfl,rfl⟩:=e
  exact ⟨ν,s,fun _=> .inl rfl,fun _ _=>rfl,fun _ _ h=>h⟩
 |i::is,σ,l,l',x,y,m,ν,s,e=>by
  unfold Vc.pubs at e
  split at e
  ·rename_i rows hl
   generalize hq:Vc.pubs is (tB i (.d (.list rows)) (del i l))=q at e
   obtain ⟨l2,m2⟩:=q
   simp only[Prod.mk.injEq] at e
   obtain ⟨rfl,rfl⟩:=e
   obtain ⟨ν',s',h1,h2,h3⟩:=sK is (s.pub hl) hq
   obtain ⟨A',c',hi⟩:=ka s.hp hl
   have hup:∀j,(∀A k c,ad (ν j)≠ .slice A k c)→dh ν i (gh (ν i)) j=ν j:=fun j hj=>by
    by_cases e:j=i
    ·subst e;exact absurd hi (hj _ _ _)
    ·simp[dh,e]
   refine ⟨ν',s',fun j=>?_,fun j hj=>?_,fun as vs hr=>h3 _ _ (Rv.pub s hl hr)⟩
   ·rcases h1 j with g|g
    ·by_cases e:j=i
     ·right;rw[g];simp[dh,e]
     ·left;rw[g];simp[dh,e]
    ·exact .inr g
   ·rw[h2 j (by rw[hup j hj];exact hj),hup j hj]
  ·exact sK is s e
theorem vo (hp:Hp N0 w ν h) {N':Nat→Prop} (hN:∀b,N' b→nN N0 ν b) {ν0:Nat→Value}:∀{as:List AV} {vs:List Value},Rv w (nN N0 ν) ν as vs→
 (∀id∈aC as,∀b,Ow (ν id) b→(∃rows,eQ h.objs id=some rows)→¬N' b)→Rv w N' ν0 (aV h.objs as) vs:=by
 have m:Mv w (nN N0 ν) w N':=⟨Nat.le_refl _,fun b _ hb=>⟨fun g=>hb (hN b g),rfl⟩⟩
 intro as vs hr
 induction hr with
 |nil=>intro _;simp only[aV];exact .nil
 |any v _ ih=>intro hd;simp only[aV,AV.view];exact .any v (ih (fun id hid=>hd id (by simp[aC,bL,hid])))
 |d h1 _ ih=>intro hd;simp only[aV,AV.view];exact .d (h1.mv m) (ih (fun id hid=>hd id (by simp[aC,bL,hid])))
 |nils _ ih=>intro hd;simp only[aV,AV.view];exact .d (.list [] none 0 0 [] .nil (by simp) (.inl rfl) (Nat.le_refl _) (Nat.zero_le _) .nil) (ih (fun id hid=>hd id (by simp[aC,bL,hid])))
 |val v _ ih=>
  intro hd
  have ih':=ih (fun id hid=>hd id (by simp[aC,bL,hid]))
  simp only[aV]
  cases v<;>simp only[AV.view]<;>first|exact .val _ ih'|exact .d (.bool _ .nil) ih'
 |agg xs _ _ ih1 ih2=>
  intro hd;simp only[aV,AV.view]
  exact .agg xs (ih1 (fun id hid=>hd id (by simp[aC,bL,hid]))) (ih2 (fun id hid=>hd id (by simp[aC,bL,hid])))
 |tup xs _ _ ih1 ih2=>
  intro hd;simp only[aV,AV.view]
  exact .tup xs (ih1 (fun id hid=>hd id (by simp[aC,bL,hid]))) (ih2 (fun id hid=>hd id (by simp[aC,bL,hid])))
 |ptr off h1 _ ih=>intro hd;simp only[aV,AV.view];exact .any _ (ih (fun id hid=>hd id (by simp[aC,bL,hid])))
 |at_ A cells h0 h1 h2 _ ih=>intro hd;simp only[aV,AV.view];exact .at_ A cells h0 (h1.mv m) (h2.mv m) (ih (fun id hid=>hd id (by simp[aC,bL,hid])))
 |rptr i off sz h1 hi _ ih=>intro hd;simp only[aV,AV.view];exact .any _ (ih (fun id hid=>hd id (by simp[aC,bL,hid])))
 |@own as vs id A k c h1 _ ih=>
  intro hd
  have ih':=ih (fun id hid=>hd id (by simp[aC,bL,hid]))
  simp only[aV,AV.view]
  split
  ·rename_i rows hl
   exact .d (kb hp hl hN (fun b g=>hd id (by simp[aC,bL]) b g ⟨rows,hl⟩) h1) ih'
  ·exact .any _ ih'
 |nest _ _ _ _ _ _ _ _ ih=>intro hd;simp only[aV,AV.view];exact .any _ (ih (fun id hid=>hd id (by simp[aC,bL,hid])))
 |mapr h1 _ ih=>intro hd;simp only[aV,AV.view];exact .any _ (ih (fun id hid=>hd id (by simp[aC,bL,hid])))
 |fn f xs _ _ ih1 ih2=>
  intro hd;simp only[aV,AV.view]
  exact .fn f xs (ih1 (fun id hid=>hd id (by simp[aC,bL,hid]))) (ih2 (fun id hid=>hd id (by simp[aC,bL,hid])))
 |bfn f xs _ _ ih1 ih2=>
  intro hd;simp only[aV,AV.view]
  exact .bfn f xs (ih1 (fun id hid=>hd id (by simp[aC,bL,hid]))) (ih2 (fun id hid=>hd id (by simp[aC,bL,hid])))
 |iface t _ _ ih1 ih2=>
  intro hd
  have ih1':=ih1 (fun id hid=>hd id (by simp[aC,bL] at hid ⊢;simp[hid]))
  simp only[aV,AV.view] at ih1' ⊢
  exact .iface t ih1' (ih2 (fun id hid=>hd id (by simp[aC,bL,hid])))
theorem Rv.lt {N N':Nat→Prop} (m:Mv w N w N') (hν:∀id,id<n→ν id≠undef→ν' id=ν id) {as:List AV} {vs:List Value} (h:Rv w N ν as vs):ba n as=true→Rv w N' ν' as vs:=by
 induction h with
 |nil=>intro _;exact .nil
 |any v _ ih=>intro hl;simp only[ba,AV.lt,Bool.and_eq_true] at hl;exact .any v (ih hl.2)
 |d h _ ih=>intro hl;simp only[ba,AV.lt,Bool.and_eq_true] at hl;exact .d (h.mv m) (ih hl.2)
 |nils _ ih=>intro hl;simp only[ba,AV.lt,Bool.and_eq_true] at hl;exact .nils (ih hl.2)
 |val v _ ih=>intro hl;simp only[ba,AV.lt,Bool.and_eq_true] at hl;exact .val v (ih hl.2)
 |agg xs _ _ ih1 ih2=>intro hl;simp only[ba,AV.lt,Bool.and_eq_true] at hl;exact .agg xs (ih1 hl.1) (ih2 hl.2)
 |tup xs _ _ ih1 ih2=>intro hl;simp only[ba,AV.lt,Bool.and_eq_true] at hl;exact .tup xs (ih1 hl.1) (ih2 hl.2)
 |ptr off h _ ih=>intro hl;simp only[ba,AV.lt,Bool.and_eq_true] at hl;exact .ptr off (by rw[hν _ (Nat.le_of_ble_eq_true hl.1) (by rw[h];simp[undef]),h]) (ih hl.2)
 |at_ A cells h0 h1 h2 _ ih=>intro hl;simp only[ba,AV.lt,Bool.and_eq_true] at hl;exact .at_ A cells h0 (h1.mv m) (h2.mv m) (ih hl.2)
 |rptr i off sz h hi _ ih=>intro hl;simp only[ba,AV.lt,Bool.and_eq_true] at hl;exact .rptr i off sz (by rw[hν _ (Nat.le_of_ble_eq_true hl.1) (ei h),h]) hi (ih hl.2)
 |own h _ ih=>intro hl;simp only[ba,AV.lt,Bool.and_eq_true] at hl;exact .own (by rw[hν _ (Nat.le_of_ble_eq_true hl.1) (ei h),h]) (ih hl.2)
 |nest i off m j h1 h2 h3 _ ih=>intro hl;simp only[ba,AV.lt,Bool.and_eq_true] at hl;exact .nest i off m j (by rw[hν _ (Nat.le_of_ble_eq_true hl.1) (zg h1 h2),h1]) h2 h3 (ih hl.2)
 |mapr h _ ih=>intro hl;simp only[ba,AV.lt,Bool.and_eq_true] at hl;exact .mapr (by rw[hν _ (Nat.le_of_ble_eq_true hl.1) (by rw[h];simp[undef]),h]) (ih hl.2)
 |fn f xs _ _ ih1 ih2=>intro hl;simp only[ba,AV.lt,Bool.and_eq_true] at hl;exact .fn f xs (ih1 hl.1) (ih2 hl.2)
 |bfn f xs _ _ ih1 ih2=>intro hl;simp only[ba,AV.lt,Bool.and_eq_true] at hl;exact .bfn f xs (ih1 hl.1) (ih2 hl.2)
 |iface t _ _ ih1 ih2=>
  intro hl
  simp only[ba,AV.lt,Bool.and_eq_true] at hl ih1
  exact .iface t (ih1 ⟨hl.1,trivial⟩) (ih2 hl.2)
theorem flat1 (hp:Hp N0 w ν h) {a:AV} {v:Value} (hr:Rv w (nN N0 ν) ν [a] [v]):
 (∀x,eH h.objs a= .d x→Rd w N0 [x] [v])∧(eH h.objs a= .nils→v= .slice none 0 0)∧(∀f,eH h.objs a= .fn f []→v= .func (.func f) #[] #[]):=by
 have m:Mv w (nN N0 ν) w N0:=⟨Nat.le_refl _,fun b _ hb=>⟨fun g=>hb (.inl g),rfl⟩⟩
 cases hr with
 |d h1 _=>exact ⟨fun x e=>by simp only[eH,AV.d.injEq] at e;subst e;exact h1.mv m,fun e=>(by simp[eH] at e),fun f e=>(by simp[eH] at e)⟩
 |nils _=>exact ⟨fun x e=>(by simp[eH] at e),fun _=>rfl,fun f e=>(by simp[eH] at e)⟩
 |fn f xs h1 _=>
  refine ⟨fun x e=>(by simp[eH] at e),fun e=>(by simp[eH] at e),fun f' e=>?_⟩
  simp only[eH,AV.fn.injEq] at e
  obtain ⟨rfl,rfl⟩:=e
  cases h1
  rfl
 |val v _=>
  cases v<;>refine ⟨fun x e=>?_,fun e=>(by simp[eH] at e),fun f e=>(by simp[eH] at e)⟩<;>simp[eH] at e
  subst e
  exact .bool _ .nil
 |@own _ _ id A k c h1 _=>
  simp only[eH]
  split
  ·rename_i rows hl
   exact ⟨fun x e=>by simp only[AV.d.injEq] at e;subst e;exact kb hp hl (fun b g=> .inl g) (fun b g=>hp.dis id b g) h1,fun e=>(by cases e),fun f e=>(by cases e)⟩
  ·exact ⟨fun x e=>(by cases e),fun e=>(by cases e),fun f e=>(by cases e)⟩
 |_=>exact ⟨fun x e=>(by simp[eH] at e),fun e=>(by simp[eH] at e),fun f e=>(by simp[eH] at e)⟩
theorem ql (hp:Hp N0 w ν h):∀{as:List AV} {vs:List Value} {ds:List D},Rv w (nN N0 ν) ν as vs→dsOf (as.map (eH h.objs))=some ds→Rd w N0 ds vs
 |[],_,_,hr,hd=>by cases hr;simp[dsOf] at hd;subst hd;exact .nil
 |a::as,_,ds,hr,hd=>by
  obtain ⟨v,r,rfl,h1,h2⟩:=hr.cons_inv
  obtain ⟨f1,f2,f3⟩:=flat1 hp h1
  simp only[List.map_cons] at hd
  generalize eH h.objs a=b at f1 f2 f3 hd
  unfold dsOf at hd
  split at hd
  ·rename_i e;cases e
  ·rename_i x r' e
   injection e with e1 e2
   subst e1 e2
   simp only[Option.map_eq_some_iff] at hd
   obtain ⟨ds',hd',rfl⟩:=hd
   exact (f1 x rfl).append (ql hp h2 hd')
  ·rename_i r' e
   injection e with e1 e2
   subst e1 e2
   simp only[Option.map_eq_some_iff] at hd
   obtain ⟨ds',hd',rfl⟩:=hd
   rw[f2 rfl]
   exact .list [] none 0 0 [] .nil (by simp) (.inl rfl) (Nat.le_refl _) (Nat.zero_le _) (ql hp h2 hd')
  ·rename_i f r' e
   injection e with e1 e2
   subst e1 e2
   simp only[Option.map_eq_some_iff] at hd
   obtain ⟨ds',hd',rfl⟩:=hd
   rw[f3 f rfl]
   exact .fn f (ql hp h2 hd')
  ·cases hd
theorem qi (hp:Hp N0 w ν h) {ν0:Nat→Value}:∀{as:List AV} {vs:List Value},Rv w (nN N0 ν) ν as vs→Rv w N0 ν0 (aP h.objs as) vs:=by
 have m:Mv w (nN N0 ν) w N0:=⟨Nat.le_refl _,fun b _ hb=>⟨fun g=>hb (.inl g),rfl⟩⟩
 intro as vs hr
 induction hr with
 |nil=>simp only[aP];exact .nil
 |any v _ ih=>simp only[aP,bU];exact .any v ih
 |d h1 _ ih=>simp only[aP,bU];exact .d (h1.mv m) ih
 |nils _ ih=>simp only[aP,bU];exact .d (.list [] none 0 0 [] .nil (by simp) (.inl rfl) (Nat.le_refl _) (Nat.zero_le _) .nil) ih
 |val v _ ih=>
  simp only[aP]
  cases v<;>simp only[bU]<;>first|exact .val _ ih|exact .d (.bool _ .nil) ih
 |agg xs _ _ ih1 ih2=>simp only[aP,bU];exact .agg xs ih1 ih2
 |tup xs _ _ ih1 ih2=>simp only[aP,bU];exact .tup xs ih1 ih2
 |@ptr as vs id b off h1 _ ih=>
  simp only[aP,bU]
  split
  ·rename_i t cs hl
   split
   ·rename_i x r hd
    obtain ⟨b',arr,e,p1,p2,p3⟩:=hp.objs _ _ hl
    rw[h1] at p1
    obtain rfl:b=b':=by injection p1 with q1;injection q1 with q1;injection q1
    have hrd:=ql hp (p3.drop off) hd
    have hne:arr.toList.drop off≠[]:=fun e=>by have:=hrd.length;rw[e] at this;simp at this
    refine .at_ ⟨b,off,none⟩ (arr.toList.drop off) hne hrd (.inr ⟨b,off,rfl,hp.dis id b (by rw[h1];exact .leaf rfl),fun j v hv=>?_⟩) ih
    rw[List.getElem?_drop] at hv
    simpa [World.cell?,p2] using hv
   ·exact .any _ ih
  ·exact .any _ ih
 |at_ A cells h0 h1 h2 _ ih=>simp only[aP,bU];exact .at_ A cells h0 (h1.mv m) (h2.mv m) ih
 |rptr i off sz h1 hi _ ih=>simp only[aP,bU];exact .any _ ih
 |@own as vs id A k c h1 _ ih=>
  simp only[aP,bU]
  split
  ·rename_i rows hl
   exact .d (kb hp hl (fun b g=> .inl g) (fun b g=>hp.dis id b g) h1) ih
  ·exact .any _ ih
 |nest _ _ _ _ _ _ _ _ ih=>simp only[aP,bU];exact .any _ ih
 |mapr h1 _ ih=>simp only[aP,bU];exact .any _ ih
 |fn f xs _ _ ih1 ih2=>simp only[aP,bU];exact .fn f xs ih1 ih2
 |bfn f xs _ _ ih1 ih2=>simp only[aP,bU];exact .bfn f xs ih1 ih2
 |iface t _ _ ih1 ih2=>
  simp only[aP,bU] at ih1 ⊢
  exact .iface t ih1 ih2
def ED (ν:Nat→Value) (id:Nat):Option Addr×Nat:=match ν id with| .slice A _ c=>(A,c)|_=>(none,0)
theorem ES (hp:Hp N0 w ν h) {ν0:Nat→Value}:∀{as:List AV} {vs:List Value},Rv w (nN N0 ν) ν as vs→Rv w (nN N0 ν) ν0 (bn h.objs (ED ν) as) vs:=by
 intro as vs hr
 induction hr with
 |nil=>simp only[bn];exact .nil
 |any v _ ih=>simp only[bn,dl];exact .any v ih
 |d h1 _ ih=>simp only[bn,dl];exact .d h1 ih
 |nils _ ih=>simp only[bn,dl];exact .d (.list [] none 0 0 [] .nil (by simp) (.inl rfl) (Nat.le_refl _) (Nat.zero_le _) .nil) ih
 |val v _ ih=>
  simp only[bn]
  cases v<;>simp only[dl]<;>first|exact .val _ ih|exact .d (.bool _ .nil) ih
 |agg xs _ _ ih1 ih2=>simp only[bn,dl];exact .agg xs ih1 ih2
 |tup xs _ _ ih1 ih2=>simp only[bn,dl];exact .tup xs ih1 ih2
 |ptr off h1 _ ih=>simp only[bn,dl];exact .any _ ih
 |at_ A cells h0 h1 h2 _ ih=>simp only[bn,dl];exact .at_ A cells h0 h1 h2 ih
 |rptr i off sz h1 hi _ ih=>simp only[bn,dl];exact .any _ ih
 |@own as vs id A k c h1 _ ih=>
  simp only[bn,dl]
  split
  ·rename_i t sz rows hl
   obtain ⟨A',c',cells,q1,_⟩:=hp.objs _ _ hl
   replace h1:=(hp.root hl).symm.trans h1
   rw[h1] at q1
   injection q1 with e1 e2 e3
   subst e1 e2 e3
   have:ED ν id=(A,c):=by simp[ED,h1]
   rw[this]
   exact .val _ ih
  ·exact .any _ ih
 |nest _ _ _ _ _ _ _ _ ih=>simp only[bn,dl];exact .any _ ih
 |mapr h1 _ ih=>simp only[bn,dl];exact .any _ ih
 |fn f xs _ _ ih1 ih2=>simp only[bn,dl];exact .any _ ih2
 |bfn f xs _ _ ih1 ih2=>simp only[bn,dl];exact .any _ ih2
 |iface t _ _ ih1 ih2=>simp only[bn,dl];exact .any _ ih2
theorem Ge {N N':Nat→Prop} {k:Nat} (m:Mv w N w N') (hν:∀id,ν' (id+k)=ν id):∀{as:List AV} {vs:List Value},Rv w N ν as vs→Rv w N' ν' (bD k as) vs:=by
 intro as vs hr
 induction hr with
 |nil=>simp only[bD];exact .nil
 |any v _ ih=>simp only[bD,df];exact .any v ih
 |d h1 _ ih=>simp only[bD,df];exact .d (h1.mv m) ih
 |nils _ ih=>simp only[bD,df];exact .nils ih
 |val v _ ih=>simp only[bD,df];exact .val v ih
 |agg xs _ _ ih1 ih2=>simp only[bD,df];exact .agg xs ih1 ih2
 |tup xs _ _ ih1 ih2=>simp only[bD,df];exact .tup xs ih1 ih2
 |ptr off h1 _ ih=>simp only[bD,df];exact .any _ ih
 |at_ A cells h0 h1 h2 _ ih=>simp only[bD,df];exact .at_ A cells h0 (h1.mv m) (h2.mv m) ih
 |rptr i off sz h1 hi _ ih=>simp only[bD,df];exact .any _ ih
 |own h1 _ ih=>simp only[bD,df];exact .own (by rw[hν,h1]) ih
 |nest _ _ _ _ _ _ _ _ ih=>simp only[bD,df];exact .any _ ih
 |mapr h1 _ ih=>simp only[bD,df];exact .any _ ih
 |fn f xs _ _ ih1 ih2=>simp only[bD,df];exact .any _ ih2
 |bfn f xs _ _ ih1 ih2=>simp only[bD,df];exact .any _ ih2
 |iface t _ _ ih1 ih2=>simp only[bD,df];exact .any _ ih2
theorem ny {k:Nat} {l0 l2:List (Nat×AO)} {j:Nat} {o:AO}:∀{l:List (Nat×AO)},look (Fo k l0 l l2) j=some o→
 (∃i,j=i+k∧((∃t sz rows,o= .row t sz rows)∨∃t sz fs rows,o= .tree t sz fs rows)∧look l0 i=some o)∨look l2 j=some o
 |[],h=> .inr (by simpa [Fo] using h)
 |(i,x)::r,h=>by
  simp only[Fo] at h
  split at h
  ·rename_i t sz rows hl
   simp only[look] at h
   by_cases e:j=i+k
   ·subst e
    rw[iq] at h
    simp only[cond_true,Option.some.injEq] at h
    exact .inl ⟨i,rfl,.inl ⟨t,sz,rows,h.symm⟩,by rw[hl,h]⟩
   ·rw[gy e] at h
    exact ny h
  ·rename_i t sz fs rows hl
   simp only[look] at h
   by_cases e:j=i+k
   ·subst e
    rw[iq] at h
    simp only[cond_true,Option.some.injEq] at h
    exact .inl ⟨i,rfl,.inr ⟨t,sz,fs,rows,h.symm⟩,by rw[hl,h]⟩
   ·rw[gy e] at h
    exact ny h
  ·exact ny h
def FZ (P:Program) (f:FuncId) (args:List AV) (h:Heap) (r:AV) (h':Heap):Prop:=
 ∀(N0:Nat→Prop) (w:World) (ν:Nat→Value) (vs:List Value),Hp N0 w ν h→Rv w (nN N0 ν) ν args vs→
  Calls P f vs.toArray w fun e w'=>∃v ν',e= .returned v∧Hp N0 w' ν' h'∧Rv w' (nN N0 ν') ν' [r] [v]∧Kp (fun b=>∃id,Ow (ν id) b) w w'∧
    (∀id,ν id≠undef→(∀A m c,ad (ν id)≠ .slice A m c)→ν' id=ν id)∧(∀id b,Ow (ν' id) b→(∃j,Ow (ν j) b)∨w.heap.size≤b)∧h'.lo=h.lo∧h.nx≤h'.nx
def F0 (P:Program) (f:FuncId) (args:List AV) (h:Heap) (r:AV) (h':Heap):Prop:=
 ∀(N0:Nat→Prop) (w:World) (ν:Nat→Value) (vs:List Value),Hp N0 w ν h→Rv w (nN N0 ν) ν args vs→
  Calls P f vs.toArray w fun e w'=>∃v ν',e= .returned v∧Hp N0 w' ν' h'∧Rv w' (nN N0 ν') ν' [r] [v]∧Kp (fun b=>∃id,Ow (ν id) b) w w'∧
    ((∀id,ν id≠undef→(∀A m c,ad (ν id)≠ .slice A m c)→ν' id=ν id)∧(∀id,ν id≠undef→ad (ν' id)=ad (ν id)))∧(∀id b,Ow (ν' id) b→(∃j,Ow (ν j) b)∨w.heap.size≤b)∧h'.lo=h.lo∧h.nx≤h'.nx
def FW (P:Program) (f:FuncId) (args:List AV) (r:AV):Prop:=
 ∀(N:Nat→Prop) (w:World) (vs:List Value),(∀b,N b→b<w.heap.size)→LwOk N w→Rv w N (fun _=>undef) args vs→
  Calls P f vs.toArray w fun e w'=>∃v,e= .returned v∧Kp (fun _=>False) w w'∧Rv w' N (fun _=>undef) [r] [v]
end
end Go.Vc
end
section
namespace Go.Vc
def w9 (P:Program) (f:FuncId):Prop:=∃fn,P.funcs[f]? =some fn∧(fn.name== "runtime.NumGoroutine")=false∧fn.body.isNone=false
def CellsKeep (N:Nat→Prop) (A B:World):Prop:=A.heap.size≤B.heap.size∧∀a v,¬N a.block→A.cell? a=some v→B.cell? a=some v
def KpI (N0:Nat→Prop) (ν:Nat→Value) (h:Heap) (A B:World):Prop:=(Hp N0 A ν h→Hp N0 B ν h)∧CellsKeep (nN N0 ν) A B
abbrev Elem (w:World) (N:Nat→Prop) (ν:Nat→Value) (xs:List (List AV→Prop)):Type:={p:Nat×Array Value//∃h:p.1<xs.length,∃x,xs[p.1] x∧Rv w N ν x p.2.toList}
def FY (P:Program) (f:FuncId) (caps:List AV) (h:Heap) (xs:List (List AV→Prop)):Prop:=
 ∀(N0:Nat→Prop) (w:World) (ν:Nat→Value) (lb:List Value),Hp N0 w ν h→Rv w (nN N0 ν) ν caps lb→
  SeqStopsK (α:=Elem w (nN N0 ν) ν xs) (G none) 0 P f lb.toArray (fun x=>x.1.2) (KpI N0 ν h) (fun ys=>ys.map (fun y=>y.1.1)=List.range xs.length) (fun _=>True) xs.length w
def av (P:Program) (fx:Bool):bX:=
 ⟨fun f args r=>w9 P f∧FW P f args r,fun f args h r h'=>w9 P f∧FZ P f args h r h',fun f caps h xs=>w9 P f∧FY P f caps h xs,fun f args h r h'=>w9 P f∧F0 P f args h r h',fx⟩
abbrev db (P:Program):bX:=av P false
section
variable {P:Program} {ro:Option Nat} {q:Md} {T:List (Nat×TI)} {N0 Nf:Nat→Prop} {w0 w w':World} {n:Nat} {σ:Env} {h:Heap} {a:Act} {ν ν' ν0:Nat→Value} {Q:Exit→Act→World→Prop} {next:Act→World→Prop}
theorem fm {f:FuncId} (he:w9 P f) (args:Array Value) (w:World):(callFunc f args).run P w= .ok (.enter f args) w:=by
 obtain ⟨fn,h1,h2,h3⟩:=he
 simp only[callFunc,Sem.run_bind,run_program,Result.andThen_ok,h1,h2,h3]
 rfl
theorem pk {o:Oper} {c:Call} {x:Operand} {f:FuncId} {caps:Array Value} (hop:o.op= .call c) (hc:c.callee= .value x) (hx:a.eval x= .func (.func f) #[] caps) (he:w9 P f):
 (execOp a.eval o).run P w= .ok (.enter f (c.args.map a.eval++caps)) w:=by
 unfold execOp
 rw[hop]
 simp only[resolve,hc,hx,Deferred.ofValue,Sem.run_bind,Sem.run_pure,Result.andThen_ok,invoke,Array.empty_append]
 exact fm he _ w
theorem v8 {o:Oper} {c:Call} {x:Operand} {f:FuncId} {first:Array Value} (hop:o.op= .call c) (hc:c.callee= .value x) (hx:a.eval x= .func (.func f) first #[]) (he:w9 P f):
 (execOp a.eval o).run P w= .ok (.enter f (first++c.args.map a.eval)) w:=by
 unfold execOp
 rw[hop]
 simp only[resolve,hc,hx,Deferred.ofValue,Sem.run_bind,Sem.run_pure,Result.andThen_ok,invoke,Array.append_empty]
 exact fm he _ w
theorem zx {t:TypeId} {ti:TI} (k:fc P t ti) (hp:ti.kind≠ .ptr) {name:String} {f:FuncId} (hm:ti.meths.lookup name=some f) (v:Value) (fuel:Nat) (w:World):
 (method (fuel+1) t v name).run P w= .ok (f,v) w:=by
 obtain ⟨i,z,h1,_,_,_,_,_,h7,_⟩:=k.info
 obtain ⟨d,h8,h9⟩:=k.kind
 have hmem:(name,f)∈ti.meths:=by
  generalize ti.meths=l at hm
  induction l with
  |nil=>cases hm
  |cons p l ih=>
   obtain ⟨nm,g⟩:=p
   simp only[List.lookup] at hm
   split at hm
   ·rename_i hb
    have:name=nm:=by simpa using hb
    simp only[Option.some.injEq] at hm
    subst this hm
    exact List.mem_cons_self
   ·exact List.mem_cons_of_mem _ (ih hm)
 have h10:=List.all_eq_true.1 h7 _ hmem
 simp only[DE] at h10
 split at h10
 ·rename_i m hfind
  simp only[Bool.and_eq_true] at h10
  obtain ⟨h11,h12⟩:=h10
  split at h12
  ·rename_i f' p hf
   simp only[Bool.and_eq_true,Bool.not_eq_true'] at h12
   obtain ⟨h13,rfl⟩:=h12
   have e:=Nat.eq_of_beq_eq_true h13
   subst e
   have hpath:m.path= #[]:=by simpa using h11
   have hnp:∀e,d≠ .pointer e:=by
    intro e hd
    subst hd
    unfold d9 at h9
    split at h9<;>simp_all
   simp only[method,Sem.run_bind,typeInfo,run_program,Result.andThen_ok,h1,Sem.run_pure,hfind,hpath,Array.toList_empty,follow,hf,receiverAt,run_underlying h8]
   cases d<;>first|(exact absurd rfl (hnp _))|(simp[Place.get])
  ·cases h12
 ·cases h10
theorem pQ {o:Oper} {c:Call} {x:Operand} {name:String} {t:TypeId} {v:Value} {ti:TI} {f:FuncId} (hop:o.op= .call c) (hc:c.callee= .invoke x name) (hx:a.eval x= .iface t v)
 (k:fc P t ti) (hp:ti.kind≠ .ptr) (hm:ti.meths.lookup name=some f) (he:w9 P f):
 (execOp a.eval o).run P w= .ok (.enter f (#[v]++c.args.map a.eval)) w:=by
 unfold execOp
 rw[hop]
 obtain ⟨i,z,h1,_⟩:=k.info
 have hsz:∃q,P.types.size+Made.depth=q+1:=⟨P.types.size+Made.depth - 1,Nat.eq_add_of_sub_eq (Nat.le_trans (by decide) (Nat.le_add_left _ _)) rfl⟩
 obtain ⟨q,hq⟩:=hsz
 simp only[resolve,hc,hx,Sem.run_bind,Sem.run_pure,Result.andThen_ok,invoke]
 rw[show ((#[Value.iface t v]++c.args.map a.eval)[0]?)=some (.iface t v) from by rw[Array.getElem?_append_left (by simp)];rfl]
 simp only[callMethod,Sem.run_bind,run_program,Result.andThen_ok,hq,zx k hp hm]
 rw[fm he]
 congr 2
 simp only[Array.extract_append,List.size_toArray,List.length_cons,List.length_nil]
 have e:(Array.map a.eval c.args).extract 0 c.args.size=Array.map a.eval c.args:=by
  rw[show c.args.size=(Array.map a.eval c.args).size from by simp,Array.extract_size]
 simp[e]
theorem ky (s:St q N0 w0 Nf n ν0 σ h a w ν) {σ1:Env} {h1:Heap} {ν1:Nat→Value} (s1:St q N0 w0 Nf n ν0 σ1 h1 a w ν1) (hsub:∀b,nN N0 ν1 b→nN N0 ν b) (hown:∀j b,Ow (ν1 j) b→∃i,Ow (ν i) b) (hk1:∀j,(∀A k c,ad (ν j)≠ .slice A k c)→ν1 j=ν j) (hlo1:h1.lo=h.lo) (hnx1:h1.nx=h.nx)
 {o:Oper} {f:FuncId} {args:List AV} {vs:List Value} (hargs:Rv w (nN N0 ν1) ν1 args vs) {K:AV→Heap→Rn→Prop} {r:AV} {h':Heap}
 (hfx:q.fx=false) (hv:(av P q.fx).heap f args h1 r h') (hk:K r h' .drop) (hrun:w9 P f→(execOp a.eval o).run P w= .ok (.enter f vs.toArray) w)
 (hn:∀r h' m a' w' ν',K r h' m→St q N0 w0 Nf n ν0 ((σ.ren m).putO n o.dst r) h' a' w' ν'→next a' w'):o.wpIn (G ro) 0 P a w next Q:=by
 obtain ⟨he,hc⟩:=hv
 refine gT (hrun he) ?_
 refine (hc N0 w ν1 vs s1.hp hargs).mono fun e w' ⟨v,ν',he',hhp,hr,hkp,hkeep,hnew,hlo,hlo2⟩=>⟨v,he',hn r h' .drop _ w' ν' hk ?_⟩
 have m1:Mv w (nN N0 ν1) w' (nN N0 ν'):=by
  refine ⟨hkp.size,fun b hb hN=>⟨?_,hkp.blk b hb (fun g=>hN (.inr g))⟩⟩
  rintro (g|⟨j,g⟩)
  ·exact hN (.inl g)
  ·rcases hnew j b g with g|g
   ·exact hN (.inr g)
   ·omega
 have m:Mv w (nN N0 ν) w' (nN N0 ν'):=⟨m1.size,fun b hb hN=>m1.blk b hb (fun g=>hN (hsub b g))⟩
 have hkeep':∀id,ν id≠undef→(∀A m c,ad (ν id)≠ .slice A m c)→ν' id=ν id:=fun id g1 g2=>by
  rw[hkeep id (by rw[hk1 id g2];exact g1) (by intro A m c;rw[hk1 id g2];exact g2 A m c),hk1 id g2]
 refine ⟨dm (fun k=>?_) s.size o.dst hr,hhp,s.kp.trans hkp (fun x hx ⟨j,g⟩=>?_),fun i b g=>?_,by rw[eC,s.size],by rw[c9];exact s.defers.mv (fun b hb hn=>hkp.blk b hb (fun ⟨j,g⟩=>by obtain ⟨i,gi⟩:=hown j b g;exact hn i gi)) (fun i b g=>by rcases hnew i b g with ⟨j,g⟩|g;exact .inl (hown j b g);exact .inr g),⟨fun i h1 h2=>?_,fun hf=>(by rw[hfx] at hf;cases hf)⟩,by rw[hlo,hlo1];exact Nat.le_trans s.low.1 (hnx1▸hlo2),by rw[hlo,hlo1];exact s.low.2⟩
 ·have:=(s.slots k).noOwn m hkeep'
  simpa [aR,Env.ren] using this
 ·rcases s1.fresh j x g with g|g
  ·omega
  ·exact g
 ·rcases hnew i b g with ⟨j,g⟩|g
  ·exact s1.fresh j b g
  ·left;have:=s.kp.size;omega
 ·have e:=s.keep.1 i h1 h2
  rw[hkeep' i (by rw[e];exact h1) (by intro A m c;rw[e];exact h2 A m c),e]
theorem um {r:AV} {v:Value} {N N':Nat→Prop} {w':World} {ν ν':Nat→Value} (hs:eu r=true) (hr:Rv w N ν [r] [v]):Rv w' N' ν' [r] [v]:=by
 unfold eu at hs
 split at hs
 ·rw[cZ hr];exact .d (.int _ _ .nil) .nil
 ·rw[cj hr];exact .d (.bool _ .nil) .nil
 ·obtain ⟨e1,e2⟩:=fj hr;rw[e1];exact .d (.str _ e2 .nil) .nil
 ·cases hs
theorem rY (s:St q N0 w0 Nf n ν0 σ h a w ν) {o:Oper} {f:FuncId} {args:List AV} {vs:List Value} (hargs:Rv w (nN N0 ν) ν args vs) {K:AV→Heap→Rn→Prop} {r:AV}
 (hs:eu r=true) (hv:(av P q.fx).pure f (aP h.objs args) r) (hk:K r h (.sub [])) (hrun:w9 P f→(execOp a.eval o).run P w= .ok (.enter f vs.toArray) w)
 (hn:∀r h' m a' w' ν',K r h' m→St q N0 w0 Nf n ν0 ((σ.ren m).putO n o.dst r) h' a' w' ν'→next a' w'):o.wpIn (G ro) 0 P a w next Q:=by
 obtain ⟨he,hc⟩:=hv
 refine gT (hrun he) ?_
 refine (hc N0 w vs s.hp.n0 s.hp.lw (qi s.hp hargs)).mono fun e w' ⟨v,he',hkp,hr⟩=>⟨v,he',hn r h (.sub []) _ w' ν hk (s.seen hkp o.dst (um hs hr))⟩
theorem LwOk.nN (h:LwOk N0 w) (ν:Nat→Value):LwOk (nN N0 ν) w:=fun p hp=>⟨.inl (h p hp).1,(h p hp).2⟩
theorem Hp.all (hp:Hp N0 w ν h):∀b,nN N0 ν b→b<w.heap.size:=fun b g=>g.elim (hp.n0 b) (fun ⟨id,g⟩=>hp.bnd id b g)
theorem r8 (s:St q N0 w0 Nf n ν0 σ h a w ν) {o:Oper} {f:FuncId} {args:List AV} {vs:List Value} (hargs:Rv w (nN N0 ν) ν args vs) {K:AV→Heap→Rn→Prop} {r:AV}
 (hv:∀g,(av P q.fx).pure f (bn h.objs g args) r) (hk:K r h (.sub [])) (hrun:w9 P f→(execOp a.eval o).run P w= .ok (.enter f vs.toArray) w)
 (hn:∀r h' m a' w' ν',K r h' m→St q N0 w0 Nf n ν0 ((σ.ren m).putO n o.dst r) h' a' w' ν'→next a' w'):o.wpIn (G ro) 0 P a w next Q:=by
 obtain ⟨he,hc⟩:=hv (ED ν)
 refine gT (hrun he) ?_
 refine (hc (nN N0 ν) w vs s.hp.all (s.hp.lw.nN ν) (ES s.hp hargs)).mono fun e w' ⟨v,he',hkp,hr⟩=>⟨v,he',hn r h (.sub []) _ w' ν hk (s.seen hkp o.dst (hr.mv (Mv.refl _ _) (fun _ h=>absurd rfl h)))⟩
theorem EE {k:Nat} {w':World} {N N':Nat→Prop} {ν':Nat→Value} (hν:∀id,ν' (id+k)=ν id):∀{as:List AV} {vs:List Value},Rv w N ν as vs→du as=true→Rv w' N' ν' (bD k as) vs:=by
 intro as vs h
 induction h with
 |nil=>intro _;simp only[bD];exact .nil
 |any v _ ih=>intro hs;simp[du,gM] at hs
 |@d as vs x v h _ ih=>
  intro hs
  simp only[du,Bool.and_eq_true] at hs
  have ih:=ih hs.2
  simp only[bD,df]
  have hs:=hs.1
  unfold gM at hs
  split at hs<;>simp_all
  ·cases h;exact .d (.int _ _ .nil) ih
  ·cases h;exact .d (.bool _ .nil) ih
  ·cases h with|str _ hs _=>exact .d (.str _ hs .nil) ih
 |nils _ ih=>intro hs;simp only[du,Bool.and_eq_true] at hs;simp only[bD,df];exact .nils (ih hs.2)
 |val v _ ih=>intro hs;simp only[du,Bool.and_eq_true] at hs;simp only[bD,df];exact .val v (ih hs.2)
 |agg xs _ _ ih1 ih2=>intro hs;simp only[du,gM,Bool.and_eq_true] at hs;simp only[bD,df];exact .agg xs (ih1 hs.1) (ih2 hs.2)
 |tup xs _ _ ih1 ih2=>intro hs;simp only[du,gM,Bool.and_eq_true] at hs;simp only[bD,df];exact .tup xs (ih1 hs.1) (ih2 hs.2)
 |own h1 _ ih=>intro hs;simp only[du,Bool.and_eq_true] at hs;simp only[bD,df];exact .own (by rw[hν,h1]) (ih hs.2)
 |_=>intro hs;simp[du,gM] at hs
theorem qD:∀{l:List (Nat×AO)} {i:Nat} {o:AO},lN l=true→look l i=some o→∃t sz fs rows,o= .tree t sz fs rows
 |[],_,_,_,h=>by simp[look] at h
 |(k,x)::r,i,o,ht,h=>by
  simp only[look] at h
  cases x with
  |tree t sz fs rows=>
   simp only[lN] at ht
   by_cases e:i=k
   ·subst e;rw[iq] at h;simp only[cond_true,Option.some.injEq] at h;exact ⟨_,_,_,_,h.symm⟩
   ·rw[gy e] at h;exact qD ht h
  |_=>simp[lN] at ht
theorem lB (s:St q N0 w0 Nf n ν0 σ h a w ν) {o:Oper} {f:FuncId} {args:List AV} {vs:List Value} {N1:Nat→Prop} (hN1:∀b,N1 b→nN N0 ν b) (hN2:∀b,N0 b→N1 b)
 (ha:Rv w N1 (fun _=>undef) args vs) {K:AV→Heap→Rn→Prop} {r:AV} {h':Heap} (hsh:N1=nN N0 ν∨(lN h'.objs&&gM r)=true)
 (hv:(av P q.fx).heap f args hp0 r h') (hk:K (df h.nx r) (h.join h') (.sub [])) (hrun:w9 P f→(execOp a.eval o).run P w= .ok (.enter f vs.toArray) w)
 (hn:∀r h' m a' w' ν',K r h' m→St q N0 w0 Nf n ν0 ((σ.ren m).putO n o.dst r) h' a' w' ν'→next a' w'):o.wpIn (G ro) 0 P a w next Q:=by
 obtain ⟨he,hc⟩:=hv
 refine gT (hrun he) ?_
 have hNe:nN N1 (fun _=>undef)=N1:=by funext b;simp[nN]
 have hp1:Hp N1 w (fun _=>undef) hp0:=⟨fun id o ho=>by simp[look,hp0] at ho,fun i j b g=>by simp at g,fun i b g=>by simp at g,fun _ _=>rfl,fun b g=>s.hp.all b (hN1 b g),fun i b g=>by simp at g,fun p hp=>⟨hN2 _ (s.hp.lw p hp).1,(s.hp.lw p hp).2⟩⟩
 refine (hc N1 w (fun _=>undef) vs hp1 (by rw[hNe];exact ha)).mono fun e w' ⟨v,ν',he',hhp,hr,hkp,hkeep,hnew,hlo,hlo2⟩=>⟨v,he',?_⟩
 have hkp:Kp (fun _=>False) w w':=⟨hkp.os,hkp.tape,hkp.output,hkp.size,fun b hb _=>hkp.blk b hb (by simp)⟩
 have hnew:∀id b,Ow (ν' id) b→w.heap.size≤b:=fun id b g=>by
  rcases hnew id b g with ⟨j,g⟩|g
  ·simp at g
  ·exact g
 have hb:∀b,b<w.heap.size→w'.heap[b]? =w.heap[b]? :=fun b hlt=>hkp.blk b hlt (fun g=>g)
 let ν2:Nat→Value:=fun i=>if i<h.nx then ν i else ν' (i - h.nx)
 have hlow:∀i,ν i≠undef→ν2 i=ν i:=fun i g=>by
  have:i<h.nx:=by rcases Nat.lt_or_ge i h.nx with q|q;exact q;exact absurd (s.hp.dom i q) g
  simp[ν2,this]
 have hhi:∀i,ν2 (i+h.nx)=ν' i:=fun i=>by
  have:¬i+h.nx<h.nx:=by omega
  simp[ν2,this]
 have hblk:∀i b,Ow (ν2 i) b→Ow (ν i) b∨w.heap.size≤b:=fun i b g=>by
  by_cases q:i<h.nx
  ·left;simpa [ν2,q] using g
  ·right;simp only[ν2,if_neg q] at g;exact hnew _ b g
 have m:Mv w (nN N0 ν) w' (nN N0 ν2):=Hp.mvN s.hp hkp.size (fun _=>False) (fun b hlt _=>hb b hlt) (fun b g=>g.elim) hblk
 have hmv2:N1=nN N0 ν→Mv w' (nN N1 ν') w' (nN N0 ν2):=by
  rintro rfl
  refine ⟨Nat.le_refl _,fun b _ g=>⟨fun g'=>g ?_,rfl⟩⟩
  rcases g' with g|⟨i,g⟩
  ·exact .inl (.inl g)
  ·by_cases q:i<h.nx
   ·exact .inl (.inr ⟨i,by simpa [ν2,q] using g⟩)
   ·exact .inr ⟨i - h.nx,by simpa [ν2,q] using g⟩
 refine hn _ _ (.sub []) _ w' ν2 hk ?_
 have hr2:Rv w' (nN N0 ν2) ν2 [df h.nx r] [v]:=by
  rcases hsh with hsh|hsh
  ·have:=Ge (k:=h.nx) (hmv2 hsh) hhi hr
   simpa only[bD] using this
  ·simp only[Bool.and_eq_true] at hsh
   have:=EE (k:=h.nx) (w':=w') (N':=nN N0 ν2) hhi hr (by simp[du,hsh.2])
   simpa only[bD] using this
 refine ⟨dm (fun k=>(s.slots k).mv m hlow) s.size o.dst hr2,⟨?_,?_,?_,?_,?_,?_,?_⟩,s.kp.trans hkp (fun _ _ g=>g.elim),fun i b g=>?_,by rw[eC,s.size],?_,⟨fun i g1 g2=>?_,fun hf i g1=>?_⟩,?_,s.low.2⟩
 ·intro id o' ho
  rcases ny ho with ⟨i,rfl,⟨t,sz,rows,rfl⟩|⟨t,sz,fs,rows,rfl⟩,hl⟩|hl
  ·rcases hsh with hsh|hsh
   ·obtain ⟨A,c,cells,q1,q2,q3,q4,q5,q6⟩:=hhp.objs i _ hl
    refine ⟨A,c,cells,by rw[hhi,q1],q2.mv (hmv2 hsh),q3,q4,q5,?_⟩
    rw[hhi];exact q6
   ·simp only[Bool.and_eq_true] at hsh
    obtain ⟨_,_,_,_,e⟩:=qD hsh.1 hl
    cases e
  ·obtain ⟨bs,q1,q2⟩:=hhp.objs i _ hl
   exact ⟨bs,by rw[hhi];exact q1,q2⟩
  ·exact Ro.keep m hlow (fun b g=>hb b (s.hp.bnd id b g)) (s.hp.objs id o' hl)
 ·intro i j b g1 g2
  by_cases q1:i<h.nx<;>by_cases q2:j<h.nx<;>simp only[ν2,q1,q2,if_true,if_false] at g1 g2
  ·exact s.hp.inj i j b g1 g2
  ·have:=s.hp.bnd i b g1;have:=hnew _ b g2;omega
  ·have:=s.hp.bnd j b g2;have:=hnew _ b g1;omega
  ·have:=hhp.inj _ _ b g1 g2;omega
 ·intro i b g
  by_cases q:i<h.nx<;>simp only[ν2,q,if_true,if_false] at g
  ·exact Nat.lt_of_lt_of_le (s.hp.bnd i b g) hkp.size
  ·exact hhp.bnd _ b g
 ·intro i hi
  simp only[Heap.join] at hi
  have q:¬i<h.nx:=by omega
  simp only[ν2,q,if_false]
  exact hhp.dom _ (by omega)
 ·exact fun b g=>Nat.lt_of_lt_of_le (s.hp.n0 b g) hkp.size
 ·intro i b g g0
  rcases hblk i b g with g|g
  ·exact s.hp.dis i b g g0
  ·have:=s.hp.n0 b g0;omega
 ·exact s.hp.lw.mv (fun b g hlt=>hb b hlt)
 ·rcases hblk i b g with g|g
  ·exact s.fresh i b g
  ·left;have:=s.kp.size;omega
 ·rw[c9]
  exact s.defers.mv (fun b hlt _=>hb b hlt) (fun i b g=>by rcases hblk i b g with g|g;exact .inl ⟨i,g⟩;exact .inr g)
 ·have e:=s.keep.1 i g1 g2
  rw[hlow i (by rw[e];exact g1),e]
 ·have e:=s.keep.2 hf i g1
  by_cases hu:ν i=undef
  ·have hi:i<h.nx:=by
    rcases Nat.lt_or_ge i h.nx with q|q
    ·exact q
    ·exact absurd (s.low.2 i (Nat.le_trans s.low.1 q)) g1
   simpa [ν2,hi] using e
  ·rw[hlow i hu];exact e
 ·exact Nat.le_trans s.low.1 (by simp only[Heap.join];omega)
theorem pZ (s:St q N0 w0 Nf n ν0 σ h a w ν) {o:Oper} {f:FuncId} {args:List AV} {vs:List Value} (hargs:Rv w (nN N0 ν) ν args vs) {K:AV→Heap→Rn→Prop} {r:AV} {h':Heap}
 (hlt:ba 0 args=true) (hv:(av P q.fx).heap f args hp0 r h') (hk:K (df h.nx r) (h.join h') (.sub [])) (hrun:w9 P f→(execOp a.eval o).run P w= .ok (.enter f vs.toArray) w)
 (hn:∀r h' m a' w' ν',K r h' m→St q N0 w0 Nf n ν0 ((σ.ren m).putO n o.dst r) h' a' w' ν'→next a' w'):o.wpIn (G ro) 0 P a w next Q:=
 lB s (N1:=nN N0 ν) (fun _ g=>g) (fun _ g=> .inl g) (hargs.lt (Mv.refl _ _) (fun id hid=>by omega) hlt) (.inl rfl) hv hk hrun hn
theorem qs (s:St q N0 w0 Nf n ν0 σ h a w ν) {o:Oper} {f:FuncId} {args:List AV} {vs:List Value} (hargs:Rv w (nN N0 ν) ν args vs) {K:AV→Heap→Rn→Prop} {r:AV} {h':Heap}
 (hv:(av P q.fx).heap f (aP h.objs args) hp0 r h') (hsh:(lN h'.objs&&gM r)=true) (hk:K (df h.nx r) (h.join h') (.sub [])) (hrun:w9 P f→(execOp a.eval o).run P w= .ok (.enter f vs.toArray) w)
 (hn:∀r h' m a' w' ν',K r h' m→St q N0 w0 Nf n ν0 ((σ.ren m).putO n o.dst r) h' a' w' ν'→next a' w'):o.wpIn (G ro) 0 P a w next Q:=
 lB s (N1:=N0) (fun _ g=> .inl g) (fun _ g=>g) (qi s.hp hargs) (.inr hsh) hv hk hrun hn
theorem uP:∀{ids:List Nat} {n k j:Nat},zY ids n k=some j→n≤j∧ids[j - n]? =some k
 |[],n,k,j,h=>by simp[zY] at h
 |i::is,n,k,j,h=>by
  simp only[zY] at h
  by_cases e:k=i
  ·subst e
   rw[iq] at h
   simp only[cond_true,Option.some.injEq] at h
   subst h
   simp
  ·rw[gy e] at h
   obtain ⟨h1,h2⟩:=uP (ids:=is) h
   refine ⟨by omega,?_⟩
   rw[show j - n=(j - (n+1))+1 from by omega]
   exact h2
theorem ku:∀{ids:List Nat} {n k:Nat},k∈ids→∃j,zY ids n k=some j
 |[],n,k,h=>by cases h
 |i::is,n,k,h=>by
  simp only[zY]
  by_cases e:k=i
  ·subst e;rw[iq];exact ⟨n,rfl⟩
  ·rw[gy e];exact ku ((List.mem_cons.1 h).resolve_left e)
theorem gQ {ids:List Nat} {k j:Nat} (h:se ids k=some j):ids[j]? =some k:=by
 have:=(uP h).2
 simpa using this
theorem iU:∀{l:List Nat},iC l=true→l.Nodup
 |[],_=>List.nodup_nil
 |i::is,h=>by
  simp only[iC,Bool.and_eq_true,Bool.not_eq_true'] at h
  refine List.nodup_cons.2 ⟨fun g=>?_,iU h.2⟩
  rw[anyN.2 g] at h
  cases h.1
theorem wA {ids:List Nat} (hnd:ids.Nodup) {k j:Nat} (h:ids[j]? =some k):se ids k=some j:=by
 obtain ⟨j',hj⟩:=ku (n:=0) (List.mem_of_getElem? h)
 have h2:=gQ hj
 have:j'=j:=by
  obtain ⟨b1,b2⟩:=List.getElem?_eq_some_iff.1 h2
  exact (List.getElem?_inj b1 hnd).1 (h2.trans h.symm)
 subst this
 exact hj
theorem uO {ids:List Nat} {k:Nat} (h:k ∉ ids):se ids k=none:=by
 cases e:se ids k with
 |none=>rfl
 |some j=>exact absurd (List.mem_of_getElem? (gQ e)) h
theorem nw {ids:List Nat} {l:List (Nat×AO)}:∀{is:List Nat} {n:Nat} {r:List (Nat×AO)},mS ids l is n=some r→
 (∀j o,look r j=some o→∃i o0,n≤j∧is[j - n]? =some i∧look l i=some o0∧o=o0.map' (se ids))∧∀i∈is,∃o,look l i=some o
 |[],n,r,h=>by
  simp only[mS,Option.some.injEq] at h
  subst h
  exact ⟨fun j o h=>(by simp[look] at h),fun i h=>(by cases h)⟩
 |i::is,n,r,h=>by
  simp only[mS] at h
  split at h
  ·rename_i o0 ho
   split at h
   ·rename_i r' hr
    simp only[Option.some.injEq] at h
    subst h
    obtain ⟨g1,g2⟩:=nw hr
    refine ⟨fun j o hl=>?_,fun k hk=>?_⟩
    ·simp only[look] at hl
     by_cases e:j=n
     ·subst e
      rw[iq] at hl
      simp only[cond_true,Option.some.injEq] at hl
      exact ⟨i,o0,Nat.le_refl _,by simp,ho,hl.symm⟩
     ·rw[gy e] at hl
      obtain ⟨k,o1,h1,h2,h3,h4⟩:=g1 j o hl
      refine ⟨k,o1,by omega,?_,h3,h4⟩
      rw[show j - n=(j - (n+1))+1 from by omega]
      exact h2
    ·rcases List.mem_cons.1 hk with rfl|hk
     ·exact ⟨o0,ho⟩
     ·exact g2 k hk
   ·cases h
  ·cases h
theorem Al {ids:List Nat} {nx j i:Nat} (h:jC ids nx j=some i):ids[j]? =some i∨(ids.length≤j∧i=j+nx):=by
 unfold jC at h
 cases e:ids[j]? with
 |some k=>rw[e] at h;exact .inl h
 |none=>rw[e] at h;injection h with h;exact .inr ⟨List.getElem?_eq_none_iff.1 e,h.symm⟩
theorem uJ {ids:List Nat} {nx:Nat} (hnd:ids.Nodup) (hlt:∀i∈ids,i<nx) {rest:List (Nat×AO)}:∀{l:List (Nat×AO)} {id:Nat} {o:AO},look (Ak ids nx rest l) id=some o→
 (∃j o',look l j=some o'∧jC ids nx j=some id∧o=o'.map' (jC ids nx))∨look rest id=some o
 |[],id,o,h=> .inr (by simpa [Ak] using h)
 |(j0,o0)::r,id,o,h=>by
  simp only[Ak] at h
  have key:look (Ak ids nx rest r) id=some o→jC ids nx j0≠some id→(∃j o',look ((j0,o0)::r) j=some o'∧jC ids nx j=some id∧o=o'.map' (jC ids nx))∨look rest id=some o:=by
    intro h hne
    rcases uJ hnd hlt h with ⟨j,o',h1,h2,h3⟩|h
    ·refine .inl ⟨j,o',?_,h2,h3⟩
     simp only[look]
     rw[gy (fun e=>hne (by rw[←e];exact h2))]
     exact h1
    ·exact .inr h
  split at h
  ·rename_i i hi
   simp only[look] at h
   by_cases e:id=i
   ·subst e
    rw[iq] at h
    simp only[cond_true,Option.some.injEq] at h
    exact .inl ⟨j0,o0,by simp[look,iq],hi,h.symm⟩
   ·rw[gy e] at h
    exact key h (fun g=>e (by rw[hi] at g;injection g with g;exact g.symm))
  ·rename_i hi
   exact key h (fun g=>by rw[hi] at g;cases g)
theorem Cr (ks:List Nat) (l:List (Nat×AO)) (j:Nat):look (Cy ks l) j=bif ks.any (Nat.beq j) then none else (look l j).map (AO.unn []):=by
 induction l with
 |nil=>simp[Cy,look]
 |cons p l ih=>
  obtain ⟨k,o⟩:=p
  simp only[Cy]
  cases hk:ks.any (Nat.beq k) with
  |true=>
   simp only[cond_true,ih,look]
   by_cases e:j=k
   ·subst e;rw[hk];rfl
   ·rw[gy e];rfl
  |false=>
   simp only[cond_false,look]
   by_cases e:j=k
   ·subst e;rw[iq,hk];rfl
   ·rw[gy e];exact ih
theorem Ro.ne {N:Nat→Prop} {id:Nat} {o:AO} (h:Ro w N ν id o):ν id≠undef:=by
 cases o with
 |cells t cs=>obtain ⟨b,arr,e,h1,_⟩:=h;rw[h1];simp[undef]
 |row t sz rows=>obtain ⟨A,c,cells,h1,_⟩:=h;rw[h1];simp[undef]
 |tree t sz fs rows=>obtain ⟨bs,h1,_⟩:=h;exact h1.ne
 |map t tk es=>obtain ⟨r,arr,clock,h1,_⟩:=h;rw[h1];simp[undef]
theorem Same.rootEq {x y:Value} (h:Same x y):ad y=ad x:=by
 rcases h with h|⟨A,n,c,h1,h2⟩
 ·rw[h]
 ·rw[h1,h2]
theorem Same.nonslice {x y:Value} (h:Same x y) (hn:∀A n c,ad x≠ .slice A n c):y=x:=by
 rcases h with h|⟨A,n,c,h1,h2⟩
 ·exact h
 ·exact absurd h1 (hn _ _ _)
theorem jO (s:St q N0 w0 Nf n ν0 σ h a w ν) {o:Oper} {f:FuncId} {args:List AV} {vs:List Value} (hargs:Rv w (nN N0 ν) ν args vs) {K:AV→Heap→Rn→Prop} {ids:List Nat} {r:AV} {h' hc:Heap}
 (hnd:iC ids=true) (hsub:qc ids h=some hc) (hv:(av P q.fx).fix f (aM (se ids) args) hc r h') (hk:K (AV.map (jC ids h.nx) r) (fP ids h h') (.tsub [])) (hrun:w9 P f→(execOp a.eval o).run P w= .ok (.enter f vs.toArray) w)
 (hn:∀r h' m a' w' ν',K r h' m→St q N0 w0 Nf n ν0 ((σ.ren m).putO n o.dst r) h' a' w' ν'→next a' w'):o.wpIn (G ro) 0 P a w next Q:=by
 obtain ⟨he,hcon⟩:=hv
 have hnd:=iU hnd
 unfold qc at hsub
 split at hsub
 case h_2=>cases hsub
 rename_i l hl
 simp only[Option.some.injEq] at hsub
 subst hsub
 obtain ⟨hl1,hl2⟩:=nw hl
 have hne:∀i∈ids,ν i≠undef:=fun i hi=>by obtain ⟨o,ho⟩:=hl2 i hi;exact (s.hp.objs i o ho).ne
 have hlt:∀i∈ids,i<h.nx:=fun i hi=>by
  rcases Nat.lt_or_ge i h.nx with q|q
  ·exact q
  ·exact absurd (s.hp.dom i q) (hne i hi)
 let νc:Nat→Value:=fun j=>match ids[j]? with|some i=>ν i|none=>undef
 have hνc:∀i j,ids[j]? =some i→νc j=ν i:=fun i j e=>by simp[νc,e]
 have hcow:∀j b,Ow (νc j) b→∃i,ids[j]? =some i∧Ow (ν i) b:=fun j b g=>by
  cases e:ids[j]? with
  |none=>simp[νc,e] at g
  |some i=>exact ⟨i,rfl,by rw[←hνc i j e];exact g⟩
 let N1:Nat→Prop:=fun b=>N0 b∨∃i,i ∉ ids∧Ow (ν i) b
 have hN:∀b,nN N1 νc b↔nN N0 ν b:=fun b=>by
  constructor
  ·rintro ((g|⟨i,_,g⟩)|⟨j,g⟩)
   ·exact .inl g
   ·exact .inr ⟨i,g⟩
   ·obtain ⟨i,_,g⟩:=hcow j b g;exact .inr ⟨i,g⟩
  ·rintro (g|⟨i,g⟩)
   ·exact .inl (.inl g)
   ·by_cases hi:i∈ids
    ·obtain ⟨j,hj⟩:=ku (n:=0) hi
     exact .inr ⟨j,by rw[hνc i j (gQ hj)];exact g⟩
    ·exact .inl (.inr ⟨i,hi,g⟩)
 have m0:Mv w (nN N0 ν) w (nN N1 νc):=⟨Nat.le_refl _,fun b _ g=>⟨fun g'=>g ((hN b).1 g'),rfl⟩⟩
 have hS0:∀i j,se ids i=some j→ν i≠undef→Same (ν i) (νc j):=fun i j e _=> .inl (hνc i j (gQ e))
 have hp1:Hp N1 w νc ⟨l,ids.length,ids.length⟩:=by
  refine ⟨fun j o ho=>?_,fun i j b g1 g2=>?_,fun i b g=>?_,fun i hi=>?_,fun b g=>s.hp.all b ((hN b).1 (.inl g)),fun i b g g0=>?_,fun p hp=>⟨.inl (s.hp.lw p hp).1,(s.hp.lw p hp).2⟩⟩
  ·obtain ⟨i,o0,_,h2,h3,rfl⟩:=hl1 j o ho
   rw[Nat.sub_zero] at h2
   exact Ro.map m0 hS0 (hνc i j h2) (fun _ _=>rfl) (s.hp.objs i o0 h3)
  ·obtain ⟨i1,e1,g1⟩:=hcow i b g1
   obtain ⟨i2,e2,g2⟩:=hcow j b g2
   have:=s.hp.inj _ _ b g1 g2
   subst this
   have k1:=wA hnd e1
   have k2:=wA hnd e2
   rw[k1] at k2
   injection k2
  ·obtain ⟨i1,e1,g1⟩:=hcow i b g
   exact s.hp.bnd _ b g1
  ·have:ids[i]? =none:=List.getElem?_eq_none hi
   simp[νc,this]
  ·obtain ⟨i1,e1,g1⟩:=hcow i b g
   rcases g0 with g0|⟨i2,hi2,g0⟩
   ·exact s.hp.dis _ b g1 g0
   ·have:=s.hp.inj _ _ b g1 g0
    subst this
    exact hi2 (List.mem_of_getElem? e1)
 refine gT (hrun he) ?_
 refine (hcon N1 w νc vs hp1 (hargs.map m0 hS0)).mono fun e w' ⟨v,ν',he',hhp,hr,hkp,⟨hkeep,hroot⟩,hnew,hlo,hlo2⟩=>⟨v,he',?_⟩
 let ν2:Nat→Value:=fun i=>match se ids i with
  |some j=>ν' j
  |none=>if i<h.nx then ν i else if i - h.nx<ids.length then undef else ν' (i - h.nx)
 have hin:∀i j,ids[j]? =some i→ν2 i=ν' j:=fun i j e=>by simp[ν2,wA hnd e]
 have hout:∀i,i ∉ ids→i<h.nx→ν2 i=ν i:=fun i e q=>by simp[ν2,uO e,q]
 have hbig:∀i,h.nx≤i→ν2 i=if i - h.nx<ids.length then undef else ν' (i - h.nx):=fun i q=>by
  have:i ∉ ids:=fun g=>by have:=hlt i g;omega
  have q':¬i<h.nx:=by omega
  simp[ν2,uO this,q']
 have hcase:∀i b,Ow (ν2 i) b→(∃j,jC ids h.nx j=some i∧Ow (ν' j) b)∨(i ∉ ids∧i<h.nx∧Ow (ν i) b):=by
  intro i b g
  by_cases hi:i∈ids
  ·obtain ⟨j,hj⟩:=ku (n:=0) hi
   have hj:=gQ hj
   rw[hin i j hj] at g
   exact .inl ⟨j,by simp[jC,hj],g⟩
  ·by_cases q:i<h.nx
   ·rw[hout i hi q] at g
    exact .inr ⟨hi,q,g⟩
   ·rw[hbig i (by omega)] at g
    by_cases q2:i - h.nx<ids.length
    ·simp[q2] at g
    ·simp only[q2,if_false] at g
     refine .inl ⟨i - h.nx,?_,g⟩
     have:ids[i - h.nx]? =none:=List.getElem?_eq_none (by omega)
     simp only[jC,this,Option.some.injEq]
     omega
 have hS:∀i,ν i≠undef→Same (ν i) (ν2 i):=by
  intro i hu
  by_cases hi:i∈ids
  ·obtain ⟨j,hj⟩:=ku (n:=0) hi
   have hj:=gQ hj
   rw[hin i j hj]
   have e:=hνc i j hj
   have hu':νc j≠undef:=by rw[e];exact hu
   by_cases hsl:∃A k c,ad (νc j)= .slice A k c
   ·obtain ⟨A,k,c,hs⟩:=hsl
    exact .inr ⟨A,k,c,by rw[←e];exact hs,by rw[hroot j hu',hs]⟩
   ·exact .inl (by rw[hkeep j hu' (fun A k c g=>hsl ⟨A,k,c,g⟩),e])
  ·have q:i<h.nx:=by
    rcases Nat.lt_or_ge i h.nx with q|q
    ·exact q
    ·exact absurd (s.hp.dom i q) hu
   exact .inl (hout i hi q)
 have hSk:∀i j,kr [] i=some j→ν i≠undef→Same (ν i) (ν2 j):=fun i j e hu=>by
  obtain ⟨rfl,_⟩:=sc e
  exact hS _ hu
 have hfe:∀i j,jC ids h.nx i=some j→ν2 j=ν' i:=fun i j e=>by
  rcases Al e with e|⟨g,e⟩
  ·exact hin _ _ e
  ·rw[hbig _ (by omega)]
   have:¬(j - h.nx<ids.length):=by omega
   simp only[this,if_false]
   congr 1
   omega
 have hfw:∀i j,jC ids h.nx i=some j→ν' i≠undef→Same (ν' i) (ν2 j):=fun i j e _=> .inl (hfe i j e)
 have hNsub:∀b,nN N0 ν2 b→nN N1 ν' b:=by
  rintro b (g|⟨i,g⟩)
  ·exact .inl (.inl g)
  ·rcases hcase i b g with ⟨j,_,g⟩|⟨g1,_,g⟩
   ·exact .inr ⟨j,g⟩
   ·exact .inl (.inr ⟨i,g1,g⟩)
 have m1:Mv w' (nN N1 ν') w' (nN N0 ν2):=⟨Nat.le_refl _,fun b _ g=>⟨fun g'=>g (hNsub b g'),rfl⟩⟩
 have hfresh:∀i b,i ∉ ids→Ow (ν i) b→w'.heap[b]? =w.heap[b]? :=fun i b hi g=>hkp.blk b (s.hp.bnd i b g) (fun ⟨j,g'⟩=>by
  obtain ⟨i',e,g'⟩:=hcow j b g'
  have:=s.hp.inj _ _ b g g'
  subst this
  exact hi (List.mem_of_getElem? e))
 refine hn _ _ (.tsub []) _ w' ν2 hk ?_
 refine s.turn (fun b=>∃j,Ow (νc j) b) (fun b ⟨j,g⟩=>by obtain ⟨i,_,g⟩:=hcow j b g;exact ⟨i,g⟩) hkp (fun m=>?_) (fun m=>?_) ?_ ?_ ?_ (eC _ _ _) (c9 _ _ _) ⟨fun i h1 h2=>?_,fun hf i h1=>?_⟩ rfl (by simp only[fP];omega)
 ·refine dm (fun k=>?_) s.size o.dst ?_
  ·have:=(s.slots k).map m hSk
   simp only[aM] at this
   exact this
  ·have:=hr.map m1 hfw
   simpa only[aM] using this
 ·intro id o' ho
  rcases uJ hnd hlt ho with ⟨j,o1,h1,h2,rfl⟩|ho
  ·exact Ro.map m1 hfw (hfe j id h2) (fun _ _=>rfl) (hhp.objs j o1 h1)
  ·rw[Cr] at ho
   cases hk:ids.any (Nat.beq id) with
   |true=>rw[hk] at ho;cases ho
   |false=>
    rw[hk] at ho
    have hid:id ∉ ids:=fun g=>by rw[anyN.2 g] at hk;cases hk
    simp only[cond_false] at ho
    cases hq:look h.objs id with
    |none=>rw[hq] at ho;cases ho
    |some o''=>
     rw[hq] at ho
     simp only[Option.map_some,Option.some.injEq] at ho
     subst ho
     have hro:=s.hp.objs id o'' hq
     have q:id<h.nx:=by
       rcases Nat.lt_or_ge id h.nx with q|q
       ·exact q
       ·exact absurd (s.hp.dom id q) hro.ne
     exact Ro.map m hSk (hout id hid q) (fun b g=>hfresh id b hid g) hro
 ·intro i j b g1 g2
  rcases hcase i b g1 with ⟨j1,e1,g1⟩|⟨e1,q1,g1⟩<;>rcases hcase j b g2 with ⟨j2,e2,g2⟩|⟨e2,q2,g2⟩
  ·have:=hhp.inj _ _ b g1 g2
   subst this
   rw[e1] at e2
   injection e2
  ·exact absurd (.inr ⟨j,e2,g2⟩) (hhp.dis _ b g1)
  ·exact absurd (.inr ⟨i,e1,g1⟩) (hhp.dis _ b g2)
  ·exact s.hp.inj _ _ b g1 g2
 ·intro i b g
  rcases hcase i b g with ⟨j1,e1,g1⟩|⟨e1,q1,g1⟩
  ·refine ⟨hhp.bnd _ b g1,?_⟩
   rcases hnew _ b g1 with ⟨j,g⟩|g
   ·obtain ⟨i',_,g⟩:=hcow j b g
    exact .inl ⟨i',g⟩
   ·exact .inr g
  ·exact ⟨Nat.lt_of_lt_of_le (s.hp.bnd i b g1) hkp.size,.inl ⟨i,g1⟩⟩
 ·intro i hi
  simp only[fP] at hi
  rw[hbig i (by omega)]
  by_cases q2:i - h.nx<ids.length
  ·simp[q2]
  ·simp only[q2,if_false]
   exact hhp.dom _ (by omega)
 ·have e:=s.keep.1 i h1 h2
  rw[(hS i (by rw[e];exact h1)).nonslice (by rw[e];exact h2),e]
 ·have e:=s.keep.2 hf i h1
  by_cases hu:ν i=undef
  ·have hi:i<h.nx:=by
    rcases Nat.lt_or_ge i h.nx with q|q
    ·exact q
    ·exact absurd (s.low.2 i (Nat.le_trans s.low.1 q)) h1
   have hi2:i ∉ ids:=fun g=>hne i g hu
   rw[hout i hi2 hi];exact e
  ·rw[(hS i hu).rootEq,e]
theorem Cm {a b i j:Nat} (h:wn a b i=some j):(i=a∧j=b)∨(i≠a∧i≠b∧j=i):=by
 unfold wn at h
 by_cases e:i=a
 ·subst e;rw[iq] at h;simp only[cond_true,Option.some.injEq] at h;exact .inl ⟨rfl,h.symm⟩
 ·rw[gy e] at h
  by_cases e2:i=b
  ·subst e2;rw[iq] at h;cases h
  ·rw[gy e2] at h;simp only[cond_false,Option.some.injEq] at h;exact .inr ⟨e,e2,h.symm⟩
theorem rU {a b:Nat} (hab:a≠b):∀{l:List (Nat×AO)} {j:Nat} {o:AO},look (FC a b l) j=some o→∃i o',look l i=some o'∧wn a b i=some j∧o=o'.map' (wn a b)
 |[],j,o,h=>by simp[FC,look] at h
 |(k,x)::r,j,o,h=>by
  have next:∀{i o'},wn a b i=some j→wn a b k≠some j→look r i=some o'→look ((k,x)::r) i=some o':=fun {i o'} h1 h2 h3=>by
    have:i≠k:=fun e=>h2 (e▸h1)
    simp only[look,gy this,cond_false,h3]
  simp only[FC] at h
  cases e:wn a b k with
  |none=>
   rw[e] at h
   obtain ⟨i,o',h1,h2,h3⟩:=rU hab h
   exact ⟨i,o',next h2 (by rw[e];simp) h1,h2,h3⟩
  |some m=>
   rw[e] at h
   simp only[look] at h
   by_cases e2:j=m
   ·subst e2
    rw[iq] at h
    simp only[cond_true,Option.some.injEq] at h
    exact ⟨k,x,by simp only[look,iq,cond_true],e,h.symm⟩
   ·rw[gy e2] at h
    obtain ⟨i,o',h1,h2,h3⟩:=rU hab h
    exact ⟨i,o',next h2 (by rw[e];simp only[ne_eq,Option.some.injEq];exact fun g=>e2 g.symm) h1,h2,h3⟩
theorem St.move (s:St q N0 w0 Nf n ν0 σ h a w ν) {x y:Nat} (hx:h.lo≤x) (hy:h.lo≤y) (hxy:x≠y) (hn:y<h.nx):
 ∃ν',St q N0 w0 Nf n ν0 (fun k=>AV.map (wn x y) (σ k)) ⟨FC x y h.objs,h.nx,h.lo⟩ a w ν':=by
 let ν':Nat→Value:=fun i=>if i=y then ν x else if i=x then undef else ν i
 have h1:ν' y=ν x:=by simp[ν']
 have h2:ν' x=undef:=by simp[ν',hxy]
 have h3:∀i,i≠x→i≠y→ν' i=ν i:=fun i e1 e2=>by simp[ν',e1,e2]
 have hf:∀i j,wn x y i=some j→ν' j=ν i:=fun i j e=>by
  rcases Cm e with ⟨rfl,rfl⟩|⟨e1,e2,rfl⟩
  ·exact h1
  ·exact h3 _ e1 e2
 have hS:∀i j,wn x y i=some j→ν i≠undef→Same (ν i) (ν' j):=fun i j e _=> .inl (hf i j e)
 have hb:∀i b,Ow (ν' i) b→∃j,Ow (ν j) b∧wn x y j=some i:=fun i b g=>by
  by_cases e:i=y
  ·subst e;rw[h1] at g;exact ⟨x,g,by simp only[wn,iq,cond_true]⟩
  ·by_cases e2:i=x
   ·subst e2;rw[h2] at g;exact absurd g ki
   ·rw[h3 i e2 e] at g;exact ⟨i,g,by simp only[wn,gy e2,gy e,cond_false]⟩
 refine ⟨ν',s.turn (fun _=>False) (fun _ g=>g.elim) (Kp.refl _ _) (fun m k=>?_) (fun m j o ho=>?_) (fun i j b g1 g2=>?_) (fun i b g=>?_) (fun i hi=>?_) rfl rfl ⟨fun i g1 g2=>?_,fun hfx i g1=>?_⟩ rfl (Nat.le_refl _)⟩
 ·have:=(s.slots k).map m hS
  simpa only[aM] using this
 ·obtain ⟨i,o',e1,e2,rfl⟩:=rU hxy ho
  exact Ro.map m hS (hf i j e2) (fun _ _=>rfl) (s.hp.objs i o' e1)
 ·obtain ⟨i',g1,e1⟩:=hb i b g1
  obtain ⟨j',g2,e2⟩:=hb j b g2
  have:=s.hp.inj _ _ b g1 g2
  subst this
  rw[e1] at e2
  injection e2
 ·obtain ⟨j,g,_⟩:=hb i b g
  exact ⟨s.hp.bnd j b g,.inl ⟨j,g⟩⟩
 ·have hi:h.nx≤i:=hi
  by_cases e:i=x
  ·rw[e];exact h2
  ·rw[h3 i e (by omega)];exact s.hp.dom i hi
 ·have:i<h.lo:=by
   rcases Nat.lt_or_ge i h.lo with g|g
   ·exact g
   ·exact absurd (s.low.2 i g) g1
  rw[h3 i (by omega) (by omega)]
  exact s.keep.1 i g1 g2
 ·have:i<h.lo:=by
   rcases Nat.lt_or_ge i h.lo with g|g
   ·exact g
   ·exact absurd (s.low.2 i g) g1
  rw[h3 i (by omega) (by omega)]
  exact s.keep.2 hfx i g1
mutual
theorem kl (f:Nat→Option Nat):∀a:AV,AV.map f (AV.map (kr []) a)=AV.map f a
 | .agg cs=>by simp only[AV.map,iX f cs]
 | .tup cs=>by simp only[AV.map,iX f cs]
 | .fn g cs=>by simp only[AV.map,iX f cs]
 | .bfn g cs=>by simp only[AV.map,iX f cs]
 | .iface t x=>by simp only[AV.map,kl f x]
 | .ptr id off=>rfl
 | .rptr id i sz off=>rfl
 | .own id=>rfl
 | .mapr id=>rfl
 | .nest _ _ _ _ _=>rfl
 | .any=>rfl
 | .d _=>rfl
 | .nils=>rfl
 | .val _=>rfl
 | .at_ _=>rfl
theorem iX (f:Nat→Option Nat):∀as:List AV,aM f (aM (kr []) as)=aM f as
 |[]=>rfl
 |a::as=>by simp only[aM,kl f a,iX f as]
end
theorem FB {σ:Env} {x y n:Nat} {d:Option Nat} {r:AV}:(fun k=>AV.map (wn x y) (((σ.ren (.tsub [])).putO n d r) k))=(σ.ren (.mv x y)).putO n d (AV.map (wn x y) r):=by
 funext k
 cases d with
 |none=>exact kl _ _
 |some d=>
  simp only[Env.putO]
  cases Nat.ble (d+1) n with
  |false=>exact kl _ _
  |true=>
   simp only[cond_true,Env.put]
   cases Nat.beq k d with
   |true=>rfl
   |false=>exact kl _ _
theorem p8 (s:St q N0 w0 Nf n ν0 σ h a w ν) {o:Oper} {f:FuncId} {args:List AV} {vs:List Value} (hargs:Rv w (nN N0 ν) ν args vs) {K:AV→Heap→Rn→Prop} {ids:List Nat} {p:Option (Nat×Nat)} {r:AV} {h' hc:Heap}
 (hnd:iC ids=true) (hsub:qc ids h=some hc) (hv:(av P q.fx).fix f (aM (se ids) args) hc r h') (hk:oV p h.lo (AV.map (jC ids h.nx) r) (fP ids h h') K) (hrun:w9 P f→(execOp a.eval o).run P w= .ok (.enter f vs.toArray) w)
 (hn:∀r h' m a' w' ν',K r h' m→St q N0 w0 Nf n ν0 ((σ.ren m).putO n o.dst r) h' a' w' ν'→next a' w'):o.wpIn (G ro) 0 P a w next Q:=by
 cases p with
 |none=>exact jO s hargs hnd hsub hv (forceH_iff.1 (show cH (fP ids h h') (fun h1=>K (AV.map (jC ids h.nx) r) h1 (.tsub [])) from hk)) hrun hn
 |some p=>
  obtain ⟨x,y⟩:=p
  unfold oV at hk
  obtain ⟨hb,hk⟩:=hk
  have hk:=forceH_iff.1 hk
  simp only[Bool.and_eq_true,Bool.not_eq_true'] at hb
  refine jO s hargs hnd hsub hv (K:=fun r1 h1 m1=>r1=AV.map (jC ids h.nx) r∧h1=fP ids h h'∧m1= .tsub []) ⟨rfl,rfl,rfl⟩ hrun ?_
  rintro _ _ _ a' w' ν' ⟨rfl,rfl,rfl⟩ s'
  obtain ⟨ν2,s2⟩:=s'.move (x:=x) (y:=y) (Nat.le_of_ble_eq_true hb.1.1.1) (Nat.le_of_ble_eq_true hb.1.1.2) (fun e=>by rw[e,iq] at hb;cases hb.1.2) (Nat.le_of_ble_eq_true hb.2)
  rw[FB] at s2
  exact hn _ _ _ _ _ _ hk s2
theorem Cj (a b:List NT):nl (a++b)=nl a+nl b:=by
 induction a with
 |nil=>simp[nl]
 |cons f a ih=>cases f<;>simp[nl,ih]<;>omega
theorem Tr.at {w:World} {t sz:Nat} {fs':List NT} {rn:List (List D)}:∀{fs:List NT} {ds:List D} {cs βs:List Value} {bs:List Nat} {p:Nat},Tr w fs ds cs βs bs→fs[p]? =some (.list t sz fs')→ds[p]? =some (.list rn)→
 ∃β1 β β2 b1 bm b2,βs=β1++β::β2∧β1.length=nl (fs.take p)∧bs=b1++(bm++b2)∧Tb w t sz fs' rn β bm∧
  ∀(w':World) (rn':List (List D)) (β':Value) (bm':List Nat),(∀b∈b1++b2,w'.heap[b]? =w.heap[b]?)→Tb w' t sz fs' rn' β' bm'→ad β'=ad β→Tr w' fs (ds.set p (.list rn')) cs (β1++β'::β2) (b1++(bm'++b2))
 |[],ds,cs,βs,bs,p,h,hf,hd=>by simp at hf
 |f::fs,ds,cs,βs,bs,0,h,hf,hd=>by
  simp only[List.getElem?_cons_zero,Option.some.injEq] at hf
  subst hf
  cases ds with
  |nil=>simp at hd
  |cons d ds=>
   simp only[List.getElem?_cons_zero,Option.some.injEq] at hd
   subst hd
   obtain ⟨rows,v,us,β,γs,b1,b2,e,rfl,rfl,rfl,g1,g2,g3,g4⟩:=xy h
   injection e with e
   subst e
   refine ⟨[],β,γs,[],b1,b2,rfl,rfl,rfl,g1,fun w' rn' β' bm' hb hT hr=>?_⟩
   simp only[List.nil_append,List.set_cons_zero]
   exact jj hT (hr.trans g2) (g4.keep fun b g=>hb b (by simpa using g))
 |f::fs,ds,cs,βs,bs,p+1,h,hf,hd=>by
  simp only[List.getElem?_cons_succ] at hf
  cases ds with
  |nil=>simp at hd
  |cons d ds=>
   simp only[List.getElem?_cons_succ] at hd
   cases h with
   |leaf _ v h1 h2 h3=>
    obtain ⟨β1,β,β2,b1,bm,b2,rfl,g2,rfl,g4,g5⟩:=Tr.at h3 hf hd
    refine ⟨β1,β,β2,b1,bm,b2,rfl,by simp[nl,g2],rfl,g4,fun w' rn' β' bm' hb hT hr=>?_⟩
    simp only[List.set_cons_succ]
    exact .leaf _ v h1 h2 (g5 w' rn' β' bm' hb hT hr)
   |list t0 sz0 fs0 rows0 A cap cells βs' bs' h1 h2 h3 h4 h5 h6 h7=>
    obtain ⟨β1,β,β2,b1,bm,b2,rfl,g2,rfl,g4,g5⟩:=Tr.at h7 hf hd
    refine ⟨_::β1,β,β2,(bG (.slice A rows0.length cap)).toList++bs'++b1,bm,b2,rfl,by simp[nl,g2],by simp only[List.append_assoc],g4,fun w' rn' β' bm' hb hT hr=>?_⟩
    simp only[List.set_cons_succ,List.cons_append]
    rw[List.append_assoc]
    simp only[List.mem_append] at hb
    refine .list t0 sz0 fs0 rows0 A cap cells βs' bs' (h1.keep fun b g=>hb b (.inl (.inl (.inr g)))) h2 h3 h4 h5 (eR h6 fun b g=>hb b (.inl (.inl (.inl (by simp[g]))))) ?_
    exact g5 w' rn' β' bm' (fun b g=>hb b (by rcases List.mem_append.1 g with g|g;exact .inl (.inr g);exact .inr g)) hT hr
theorem Dg {α:Type} (fs:List α):∀(n i off:Nat),i<n→off<fs.length→((List.replicate n fs).flatten)[i*fs.length+off]? =fs[off]?
 |0,_,_,h,_=>absurd h (Nat.not_lt_zero _)
 |n+1,0,off,_,h2=>by
  rw[List.replicate_succ,List.flatten_cons,Nat.zero_mul,Nat.zero_add,List.getElem?_append_left h2]
 |n+1,i+1,off,h1,h2=>by
  rw[List.replicate_succ,List.flatten_cons,List.getElem?_append_right (by rw[Nat.add_mul];omega),←Dg fs n i off (by omega) h2]
  congr 1
  rw[Nat.add_mul];omega
theorem ry (fs:List NT):∀(n i off:Nat),i<n→off≤fs.length→nl (((List.replicate n fs).flatten).take (i*fs.length+off))=i*nl fs+nl (fs.take off)
 |0,_,_,h,_=>absurd h (Nat.not_lt_zero _)
 |n+1,0,off,_,h2=>by
  rw[List.replicate_succ,List.flatten_cons,Nat.zero_mul,Nat.zero_add,List.take_append_of_le_length h2,Nat.zero_mul,Nat.zero_add]
 |n+1,i+1,off,h1,h2=>by
  have e:(i+1)*fs.length+off=fs.length+(i*fs.length+off):=by rw[Nat.add_mul];omega
  rw[List.replicate_succ,List.flatten_cons,e,List.take_length_add_append,Cj,ry fs n i off (by omega) h2,Nat.add_mul]
  omega
theorem Bo {sz:Nat}:∀{rows:List (List D)} {i off:Nat} {row:List D},(∀r∈rows,r.length=sz)→rows[i]? =some row→off<sz→rows.flatten[i*sz+off]? =row[off]?
 |[],i,off,row,_,h,_=>by simp at h
 |r::rows,0,off,row,hl,h,h2=>by
  simp only[List.getElem?_cons_zero,Option.some.injEq] at h
  subst h
  have:=hl r (List.mem_cons_self ..)
  rw[List.flatten_cons,Nat.zero_mul,Nat.zero_add,List.getElem?_append_left (by omega)]
 |r::rows,i+1,off,row,hl,h,h2=>by
  simp only[List.getElem?_cons_succ] at h
  have:=hl r (List.mem_cons_self ..)
  rw[List.flatten_cons,List.getElem?_append_right (by rw[Nat.add_mul];omega),←Bo (fun x hx=>hl x (List.mem_cons_of_mem _ hx)) h h2]
  congr 1
  rw[Nat.add_mul];omega
theorem yL {sz:Nat} {x:D}:∀{rows:List (List D)} {i off:Nat} {row:List D},(∀r∈rows,r.length=sz)→rows[i]? =some row→off<sz→(rows.set i (row.set off x)).flatten=rows.flatten.set (i*sz+off) x
 |[],i,off,row,_,h,_=>by simp at h
 |r::rows,0,off,row,hl,h,h2=>by
  simp only[List.getElem?_cons_zero,Option.some.injEq] at h
  subst h
  have:=hl r (List.mem_cons_self ..)
  rw[List.set_cons_zero,List.flatten_cons,List.flatten_cons,Nat.zero_mul,Nat.zero_add,List.set_append_left _ _ (by omega)]
 |r::rows,i+1,off,row,hl,h,h2=>by
  simp only[List.getElem?_cons_succ] at h
  have:=hl r (List.mem_cons_self ..)
  rw[List.set_cons_succ,List.flatten_cons,List.flatten_cons,yL (fun x hx=>hl x (List.mem_cons_of_mem _ hx)) h h2,List.set_append_right _ _ (by rw[Nat.add_mul];omega)]
  congr 2
  rw[Nat.add_mul];omega
theorem Tb.at {w:World} {t sz t' sz':Nat} {fs fs':List NT} {rows rn:List (List D)} {γ:Value} {bs:List Nat} {i off:Nat} {row:List D} (h:Tb w t sz fs rows γ bs) (hi:rows[i]? =some row) (ho:row[off]? =some (.list rn)) (hf:fs[off]? =some (.list t' sz' fs')):
 ∃xs β b1 bm b2,γ= .tuple xs∧xs[1+(i*nl fs+nl (fs.take off))]? =some β∧bs=b1++(bm++b2)∧Tb w t' sz' fs' rn β bm∧
  ∀(w':World) (rn':List (List D)) (β':Value) (bm':List Nat),(∀b∈b1++b2,w'.heap[b]? =w.heap[b]?)→Tb w' t' sz' fs' rn' β' bm'→ad β'=ad β→
   ∃γ',ad γ'=ad γ∧Tb w' t sz fs (rows.set i (row.set off (.list rn'))) γ' (b1++(bm'++b2)):=by
 obtain ⟨A,cap,cells,βs,bs',rfl,rfl,h1,h2,h3,h4,h5,h6⟩:=h
 have hin:i<rows.length:=(List.getElem?_eq_some_iff.1 hi).1
 have hoff:off<fs.length:=(List.getElem?_eq_some_iff.1 hf).1
 have hoff':off<sz:=by omega
 have k1:((List.replicate rows.length fs).flatten)[i*sz+off]? =some (.list t' sz' fs'):=by rw[←h3,Dg fs _ _ _ hin hoff,hf]
 have k2:rows.flatten[i*sz+off]? =some (.list rn):=by rw[Bo h2 hi hoff',ho]
 obtain ⟨β1,β,β2,b1,bm,b2,rfl,g2,rfl,g4,g5⟩:=h1.at k1 k2
 have g2':β1.length=i*nl fs+nl (fs.take off):=by rw[g2,←h3,ry fs _ _ _ hin (Nat.le_of_lt hoff)]
 refine ⟨_,β,(bG (.slice A rows.length cap)).toList++b1,bm,b2,rfl,?_,by simp only[List.append_assoc],g4,fun w' rn' β' bm' hb hT hr=>?_⟩
 ·rw[List.getElem?_toArray,Nat.add_comm 1,List.getElem?_cons_succ,List.getElem?_append_right (by omega),g2']
  simp
 ·simp only[List.mem_append] at hb
  have g6:=g5 w' rn' β' bm' (fun b g=>hb b (by rcases List.mem_append.1 g with g|g;exact .inl (.inr g);exact .inr g)) hT hr
  refine ⟨.tuple (.slice A rows.length cap::(β1++β'::β2)).toArray,rfl,A,cap,cells,_,b1++(bm'++b2),by rw[List.length_set],by rw[List.length_set];simp only[List.append_assoc],?_,?_,h3,h4,by rw[List.length_set];exact h5,?_⟩
  ·rw[List.length_set,yL h2 hi hoff']
   exact g6
  ·intro r hr
   rcases List.mem_or_eq_of_mem_set hr with hr|rfl
   ·exact h2 r hr
   ·rw[List.length_set];exact h2 row (List.mem_of_getElem? hi)
  ·rw[List.length_set]
   exact eR h6 fun b g=>hb b (.inl (.inl (by simp[g])))
theorem EQ (as:List AV):True:=trivial
theorem rH {N N':Nat→Prop} {ν':Nat→Value} (m:Mv w N w N'):∀{args args':List AV} {vs:List Value} {id i off mm j:Nat},ju args=some ((id,i,off,mm,j),args')→Rv w N ν args vs→
 ∃xs β A n c,ν id= .tuple xs∧xs[1+(i*mm+j)]? =some β∧ad β= .slice A n c∧(ad (ν' 0)= .slice A n c→Rv w N' ν' args' vs)
 |[],_,_,_,_,_,_,_,h,_=>by simp[ju] at h
 |x::as,args',vs,id,i,off,mm,j,h,hr=>by
  have hnone:∀{bs:List AV} {us:List Value},Rv w N ν bs us→Rv w N' ν' (aM (fun _=>none) bs) us:=fun hr=>hr.map m (fun _ _ e _=>by cases e)
  have other:∀{x:AV} {p:Nat×Nat×Nat×Nat×Nat} {as':List AV},ju as=some (p,as')→p=(id,i,off,mm,j)→AV.map (fun _=>none) x::as'=args'→Rv w N ν (x::as) vs→
   ∃xs β A n c,ν id= .tuple xs∧xs[1+(i*mm+j)]? =some β∧ad β= .slice A n c∧(ad (ν' 0)= .slice A n c→Rv w N' ν' args' vs):=by
   rintro x p as' hq rfl rfl hr
   obtain ⟨v,us,rfl,h1,h2⟩:=hr.cons_inv
   obtain ⟨xs,β,A,n',c,g1,g2,g3,g4⟩:=rH m hq h2
   refine ⟨xs,β,A,n',c,g1,g2,g3,fun g=>?_⟩
   have:=hnone h1
   simp only[aM] at this
   exact this.cons (g4 g)
  cases x with
  |nest id' i' off' m' j'=>
   simp only[ju] at h
   cases hb:as.any vj with
   |true=>rw[hb] at h;cases h
   |false=>
    rw[hb] at h
    simp only[cond_false,Option.some.injEq,Prod.mk.injEq] at h
    obtain ⟨⟨rfl,rfl,rfl,rfl,rfl⟩,rfl⟩:=h
    cases hr with
    |nest _ _ _ _ h1 h2 h3 hr=>exact ⟨_,_,_,_,_,h1,h2,h3,fun g=> .own g (hnone hr)⟩
  |_=>
   simp only[ju] at h
   split at h
   ·rename_i p as' hq
    simp only[Option.some.injEq,Prod.mk.injEq] at h
    exact other hq h.1 h.2 hr
   ·cases h
theorem rG (s:St q N0 w0 Nf n ν0 σ h a w ν) {o:Oper} {f:FuncId} {args:List AV} {vs:List Value} (hargs:Rv w (nN N0 ν) ν args vs) {K:AV→Heap→Rn→Prop}
 (hv:nW (av P q.fx) f args h K) (hrun:w9 P f→(execOp a.eval o).run P w= .ok (.enter f vs.toArray) w)
 (hn:∀r h' m a' w' ν',K r h' m→St q N0 w0 Nf n ν0 ((σ.ren m).putO n o.dst r) h' a' w' ν'→next a' w'):o.wpIn (G ro) 0 P a w next Q:=by
 unfold nW at hv
 split at hv
 case h_2=>exact hv.elim
 rename_i id i off mm j args' hna
 split at hv
 case h_2=>exact hv.elim
 rename_i t sz fs rows hid
 split at hv
 case h_2=>exact hv.elim
 rename_i t' sz' fs' hfs
 obtain ⟨hmj,row,rn,hrow,hoff,r,h',hsc,⟨he,hcon⟩,rn',hrn',hk⟩:=hv
 have hk:=forceH_iff.1 (forceDs_iff.1 hk)
 simp only[Bool.and_eq_true] at hmj
 have em:=Nat.eq_of_beq_eq_true hmj.1
 have ej:=Nat.eq_of_beq_eq_true hmj.2
 subst em ej
 obtain ⟨bs,hT,hbs⟩:=s.hp.objs _ _ hid
 obtain ⟨xs,β,b1,bm,b2,hγ,hβ,rfl,hTn,hrep⟩:=hT.at hrow hoff hfs
 have hdis:∀b∈bm,b ∉ b1∧b ∉ b2:=fun b hb=>by
  rw[List.nodup_append] at hbs
  obtain ⟨_,hbs2,hbs3⟩:=hbs
  rw[List.nodup_append] at hbs2
  exact ⟨fun g=>hbs3 b g b (List.mem_append_left _ hb) rfl,fun g=>hbs2.2.2 b hb b g rfl⟩
 have hnbm:bm.Nodup:=(List.nodup_append.1 (List.nodup_append.1 hbs).2.1).1
 let νc:Nat→Value:=fun k=>if k=0 then β else undef
 let N1:Nat→Prop:=fun b=>nN N0 ν b∧b ∉ bm
 have hbmN:∀b∈bm,Ow (ν id) b:=fun b hb=>(hT.ow b).2 (by simp[hb])
 have hcow:∀k b,Ow (νc k) b↔k=0∧b∈bm:=fun k b=>by
  by_cases e:k=0
  ·simp only[νc,e,if_true,true_and];exact hTn.ow b
  ·simp[νc,e]
 have hN:∀b,nN N1 νc b↔nN N0 ν b:=fun b=>by
  constructor
  ·rintro (g|⟨k,g⟩)
   ·exact g.1
   ·exact .inr ⟨id,hbmN b ((hcow k b).1 g).2⟩
  ·intro g
   by_cases hb:b∈bm
   ·exact .inr ⟨0,(hcow 0 b).2 ⟨rfl,hb⟩⟩
   ·exact .inl ⟨g,hb⟩
 have m0:Mv w (nN N0 ν) w (nN N1 νc):=⟨Nat.le_refl _,fun b _ g=>⟨fun g'=>g ((hN b).1 g'),rfl⟩⟩
 obtain ⟨xs',β',A',n',c',q1,q2,q3,q4⟩:=rH (ν':=νc) m0 hna hargs
 rw[hγ] at q1
 injection q1 with q1
 subst q1
 rw[hβ] at q2
 injection q2 with q2
 subst q2
 have hp1:Hp N1 w νc ⟨[(0,.tree t' sz' fs' rn)],1,1⟩:=by
  refine ⟨fun k o ho=>?_,fun k1 k2 b g1 g2=>?_,fun k b g=>?_,fun k hk=>?_,fun b g=>s.hp.all b g.1,fun k b g g0=>?_,fun p hp=>⟨⟨.inl (s.hp.lw p hp).1,fun g=>s.hp.dis id _ (hbmN _ g) (s.hp.lw p hp).1⟩,(s.hp.lw p hp).2⟩⟩
  ·simp only[look] at ho
   by_cases e:k=0
   ·subst e
    simp only[Nat.beq_refl,cond_true,Option.some.injEq] at ho
    subst ho
    exact ⟨bm,by simpa [νc] using hTn,hnbm⟩
   ·rw[gy e] at ho;cases ho
  ·rw[((hcow k1 b).1 g1).1,((hcow k2 b).1 g2).1]
  ·exact hTn.bnd b ((hcow k b).1 g).2
  ·have:k≠0:=by simp only at hk;omega
   simp[νc,this]
  ·exact g0.2 ((hcow k b).1 g).2
 refine gT (hrun he) ?_
 refine (hcon N1 w νc vs hp1 (q4 q3)).mono fun e w' ⟨v,ν',he',hhp,hr,hkp,⟨hkeep,hroot⟩,hnew,hlo,hlo2⟩=>⟨v,he',?_⟩
 obtain ⟨bm',hT',hnd'⟩:=hhp.objs 0 _ hrn'
 have hold:∀b,b<w.heap.size→b ∉ bm→w'.heap[b]? =w.heap[b]? :=fun b hlt hb=>hkp.blk b hlt (fun ⟨k,g⟩=>hb ((hcow k b).1 g).2)
 have hrt:ad (ν' 0)=ad β:=hroot 0 (by show β≠undef;exact hTn.ne)
 have hbd:=hT.bnd
 obtain ⟨γ',hγ1,hγ2⟩:=hrep w' rn' (ν' 0) bm' (fun b g=>hold b (hbd b (by rcases List.mem_append.1 g with g|g<;>simp[g])) (fun g'=>by rcases List.mem_append.1 g with g|g;exact (hdis b g').1 g;exact (hdis b g').2 g)) hT' hrt
 have hk2:Kp (fun b=>Ow (ν id) b) w w':=⟨hkp.os,hkp.tape,hkp.output,hkp.size,fun b hlt hb=>hold b hlt (fun g=>hb (hbmN b g))⟩
 have hbm':∀b∈bm',b∈bm∨w.heap.size≤b:=fun b g=>by
  rcases hnew 0 b ((hT'.ow b).2 g) with ⟨k,g⟩|g
  ·exact .inl ((hcow k b).1 g).2
  ·exact .inr g
 have hid':id<h.nx:=by
  rcases Nat.lt_or_ge id h.nx with q|q
  ·exact q
  ·exact absurd (s.hp.dom id q) hT.ne
 refine hn _ _ (.tsub []) _ w' _ hk (s.absorb (id:=id) (nx:=h.nx) (val:=γ') (ks:=[]) (fz:=[]) (o:= .tree t sz fs (rows.set i (row.set off (.list rn')))) (Nat.le_refl _) hid' hk2 (fun b g=>?_) (by simp) (by simp) (.inr (.inr ?_)) (fun hu=>?_) (fun m=>⟨_,by rw[dX];exact hγ2,?_⟩) (fun k o' ho=>?_) o.dst (fun m=>um hsc hr))
 ·have g:=(hγ2.ow b).1 g
  refine ⟨hγ2.bnd b g,?_⟩
  simp only[List.mem_append] at g
  rcases g with g|g|g
  ·exact .inl ((hT.ow b).2 (by simp[g]))
  ·rcases hbm' b g with g|g
   ·exact .inl (hbmN b g)
   ·exact .inr (.inr g)
  ·exact .inl ((hT.ow b).2 (by simp[g]))
 ·obtain ⟨A,c,e⟩:=hT.root
  exact .inr ⟨A,_,c,e,by rw[hγ1,e]⟩
 ·obtain ⟨A,c,e⟩:=hT.root
  refine ⟨?_,fun hf=>by rw[hγ1];exact s.keep.2 hf id hu⟩
  by_cases hsl:∃A k c,ad (ν0 id)= .slice A k c
  ·exact hsl
  ·have:=s.keep.1 id hu (fun A k c g=>hsl ⟨A,k,c,g⟩)
   rw[this] at e
   exact ⟨_,_,_,e⟩
 ·rw[List.nodup_append] at hbs ⊢
  obtain ⟨n1,n2,n3⟩:=hbs
  rw[List.nodup_append] at n2
  refine ⟨n1,List.nodup_append.2 ⟨hnd',n2.2.1,fun b hb c hc e=>?_⟩,fun b hb c hc e=>?_⟩
  ·subst e
   rcases hbm' b hb with g|g
   ·exact (hdis b g).2 hc
   ·have:=hbd b (by simp[hc]);omega
  ·subst e
   rcases List.mem_append.1 hc with hc|hc
   ·rcases hbm' b hc with g|g
    ·exact (hdis b g).1 hb
    ·have:=hbd b (by simp[hb]);omega
   ·exact n3 b hb b (by simp[hc]) rfl
 ·simp only[kS,kR] at ho
  by_cases e:k=id
  ·subst e
   rw[if_pos rfl] at ho
   simp only[List.any_nil,cond_false,hid,Option.map_some,Option.some.injEq] at ho
   exact .inl ⟨rfl,ho.symm⟩
  ·rw[if_neg e] at ho
   simp only[List.any_nil,cond_false] at ho
   cases hq:look h.objs k with
   |none=>rw[hq] at ho;cases ho
   |some o''=>
    rw[hq] at ho
    simp only[Option.map_some,Option.some.injEq] at ho
    exact .inr ⟨e,by simp,o'',rfl,ho.symm⟩
theorem gC (s:St q N0 w0 Nf n ν0 σ h a w ν) {o:Oper} {f:FuncId} {args:List AV} {vs:List Value} (hargs:Rv w (nN N0 ν) ν args vs) {K:AV→Heap→Rn→Prop}
 (hv:jY (av P q.fx) f args h K) (hrun:w9 P f→(execOp a.eval o).run P w= .ok (.enter f vs.toArray) w)
 (hn:∀r h' m a' w' ν',K r h' m→St q N0 w0 Nf n ν0 ((σ.ren m).putO n o.dst r) h' a' w' ν'→next a' w'):o.wpIn (G ro) 0 P a w next Q:=by
 rcases hv with ⟨r,⟨he,hc⟩,hk⟩|⟨r,h',hc,hk⟩|⟨r,h',hc,hk⟩|⟨r,hs,hc,hk⟩|⟨r,hc,hk⟩|⟨r,h',hlt,hc,hk⟩|⟨r,h',hc,hsh,hk⟩|⟨ids,p,r,h',hnd,hc,hk⟩|hv
 rotate_left
 ·exact ky s s (fun _ g=>g) (fun j b g=>⟨j,g⟩) (fun _ _=>rfl) rfl rfl hargs hc.1 hc.2 hk hrun hn
 ·generalize hq:pubs (aC args) h.objs=q at hc
  obtain ⟨l,m⟩:=q
  obtain ⟨ν1,s1,h1,h2,h3⟩:=sK (ν:=ν) (x:=h.nx) (y:=h.lo) _ s hq
  refine ky s s1 ?_ (fun j b g=>⟨j,by rcases h1 j with e|e;exact e▸g;exact absurd g (e b)⟩) h2 rfl rfl (h3 _ _ hargs) hc.1 hc.2 hk hrun hn
  rintro b (g|⟨j,g⟩)
  ·exact .inl g
  ·rcases h1 j with e|e
   ·exact .inr ⟨j,by rw[←e];exact g⟩
   ·exact absurd g (e b)
 ·exact rY s hargs hs hc hk hrun hn
 ·exact r8 s hargs hc hk hrun hn
 ·exact pZ s hargs hlt hc (forceH_iff.1 hk) hrun hn
 ·exact qs s hargs hc hsh (forceH_iff.1 hk) hrun hn
 ·split at hc
  ·rename_i hc' hsub
   exact p8 s hargs hnd hsub hc hk hrun hn
  ·exact hc.elim
 ·exact rG s hargs hv hrun hn
 refine gT (hrun he) ?_
 cases hs:eu r with
 |true=>
  rw[hs] at hk
  let N':Nat→Prop:=fun b=>nN N0 ν b∧∀id∈aC args,¬Ow (ν id) b
  have hview:Rv w N' (fun _=>undef) (aV h.objs args) vs:=vo s.hp (fun b g=>g.1) hargs (fun id hid b hb _ g=>g.2 id hid hb)
  refine (hc N' w vs (fun b g=>?_) (fun p hp=>⟨⟨.inl (s.hp.lw p hp).1,fun id _ e=>s.hp.dis id p.1 e (s.hp.lw p hp).1⟩,(s.hp.lw p hp).2⟩) hview).mono fun e w' ⟨v,he',hkp,hr⟩=>⟨v,he',hn r h (.sub []) _ w' ν hk ?_⟩
  ·rcases g.1 with g|⟨id,g⟩
   ·exact s.hp.n0 b g
   ·exact s.hp.bnd id b g
  ·refine s.seen hkp o.dst ?_
   unfold eu at hs
   split at hs
   ·rw[cZ hr];exact .d (.int _ _ .nil) .nil
   ·rw[cj hr];exact .d (.bool _ .nil) .nil
   ·obtain ⟨e1,e2⟩:=fj hr;rw[e1];exact .d (.str _ e2 .nil) .nil
   ·cases hs
 |false=>
  rw[hs] at hk
  simp only at hk
  generalize hq:pubs (aC args) h.objs=q at hk
  obtain ⟨l,m⟩:=q
  obtain ⟨ν',s',h1,h2⟩:=St.pubs (ν:=ν) (x:=h.nx) (y:=h.lo) _ s hq
  have hsub:∀b,nN N0 ν' b→nN N0 ν b:=by
   rintro b (g|⟨j,g⟩)
   ·exact .inl g
   ·rcases h1 j with e|e
    ·exact .inr ⟨j,by rw[←e];exact g⟩
    ·exact absurd g (e b)
  have hview:Rv w (nN N0 ν') (fun _=>undef) (aV h.objs args) vs:=by
   refine vo s.hp hsub hargs (fun id hid b hb hrow g=>?_)
   have hu:=h2 id hid hrow
   rcases g with g|⟨j,g⟩
   ·exact s.hp.dis id b hb g
   ·rcases h1 j with e|e
    ·have hj:j=id:=s.hp.inj j id b (by rw[←e];exact g) hb
     subst hj
     exact absurd g (hu b)
    ·exact absurd g (e b)
  refine (hc (nN N0 ν') w vs (fun b g=>?_) (fun p hp=>⟨.inl (s.hp.lw p hp).1,(s.hp.lw p hp).2⟩) hview).mono fun e w' ⟨v,he',hkp,hr⟩=>⟨v,he',hn r ⟨l,h.nx,h.lo⟩ (.sub m) _ w' ν' hk (s'.seen hkp o.dst ?_)⟩
  ·rcases g with g|⟨id,g⟩
   ·exact s'.hp.n0 b g
   ·exact s'.hp.bnd id b g
  ·exact hr.mv (Mv.refl _ _) (fun _ h=>absurd rfl h)
end
end Go.Vc
end
section
namespace Go.Vc
section
variable {P:Program} {ro:Option Nat} {q:Md} {T:List (Nat×TI)} {N0 Nf:Nat→Prop} {w0 w w':World} {n:Nat} {σ:Env} {h:Heap} {a:Act} {ν ν' ν0:Nat→Value} {Q:Exit→Act→World→Prop} {next:Act→World→Prop}
def Looks (P:Program) (a:Act) (w:World) (N:Nat→Prop) (ν:Nat→Value) (o:Oper) (r:AV):Prop:=
 ∃v,(execOp a.eval o).run P w= .ok (.value v) w∧Rv w N ν [r] [v]
theorem aq {o:Oper} {r:AV} (s:St q N0 w0 Nf n ν0 σ h a w ν) (hl:Looks P a w (nN N0 ν) ν o r) (hn:∀a' w',St q N0 w0 Nf n ν0 (σ.putO n o.dst r) h a' w' ν→next a' w'):o.wpIn (G ro) 0 P a w next Q:=by
 obtain ⟨v,h1,h2⟩:=hl
 exact bw h1 (hn _ _ (s.seen (Kp.refl _ _) o.dst h2))
theorem CE {op:BinOp} {k:IntKind} {x y:Int} {d:D} (hb:Az op k x y=some d) (xt:TypeId):∃v,(binOp op xt (.int k x) (.int k y)).run P w= .ok v w∧∀N ν,Rv w N ν [.d d] [v]:=by
 unfold Az at hb
 split at hb<;>simp only[Option.some.injEq,reduceCtorEq] at hb<;>subst hb
 all_goals simp only[binOp,ne_eq,not_true_eq_false,if_false,Op.intArith,Op.intCmp,Op.intBits,El,Sem.run_pure]
 all_goals refine ⟨_,rfl,fun N ν=>?_⟩
 all_goals first|exact .d (.int _ _ .nil) .nil|exact .d (.bool _ .nil) .nil
theorem CD {op:BinOp} {x y:Bs} {d:D} (hb:Ay op x y=some d) (xt:TypeId):∃v,(binOp op xt (.string (fe x)) (.string (fe y))).run P w= .ok v w∧∀N ν,Rv w N ν [.d d] [v]:=by
 unfold Ay at hb
 split at hb<;>simp only[Option.some.injEq,reduceCtorEq] at hb<;>subst hb
 all_goals simp only[binOp,Op.stringOp,fe,ByteArray.toList_mk,Sem.run_pure]
 all_goals refine ⟨_,rfl,fun N ν=>?_⟩
 all_goals exact .d (.bool _ .nil) .nil
theorem dM (op:BinOp) (t:TypeId) (x y:Operand) (u v:Value) (hu:∀cs,u≠ .agg cs) (hu':u≠ .nilIface):(eqGuard op t x y u v).run P w= .ok () w:=by
 unfold eqGuard
 cases hm:(!(op matches .eql| .neq)) with
 |true=>simp
 |false=>
  simp only[Bool.false_eq_true,if_false,Sem.run_bind,Sem.run_pure,Result.andThen_ok]
  cases u<;>first|(exact absurd rfl (hu _))|(exact absurd rfl hu')|(cases v<;>rfl)
theorem AA {op:BinOp} {x y:Bool} {xt:TypeId} {d:D} (ht:P.underlying xt=some .bool)
 (hb:(match op with| .eql=>some (D.bool (x==y))| .neq=>some (.bool (!(x==y)))|_=>none)=some d):
 ∃v,(binOp op xt (.bool x) (.bool y)).run P w= .ok v w∧∀N ν,Rv w N ν [.d d] [v]:=by
 have he:(Op.equal xt (.bool x) (.bool y)).run P w= .ok (x==y) w:=by
  unfold Op.equal Op.maxDepth Op.equalIn
  simp[run_underlying ht]
 cases op<;>simp only[Option.some.injEq,reduceCtorEq] at hb<;>subst hb
 all_goals simp only[binOp,Sem.run_bind,he,Result.andThen_ok,Sem.run_pure]
 all_goals exact ⟨_,rfl,fun N ν=> .d (.bool _ .nil) .nil⟩
theorem GR (place:Nat→Option (Nat×Nat)):True:=trivial
theorem rl {t:TypeId} {ti:TI} (k:fc P t ti) (hz:ti.size≠0) (f:Field) (hf:f.type=t) (b o:Nat):(fieldPlace ⟨b,o,none⟩ f).run P w= .ok ⟨b,o+f.offset,none⟩ w:=by
 unfold fieldPlace
 rw[hf]
 simp only[Sem.run_bind,bz k,Result.andThen_ok]
 rw[if_neg hz,Sem.run_pure,Addr.add_lit]
theorem ot {t:TypeId} {ti:TI} (k:fc P t ti) {fs:List (Nat×TypeId)} (hk:ti.kind= .struct fs):∃fields,P.underlying t=some (.struct fields)∧fields.toList.map (fun f=>(f.offset,f.type))=fs:=by
 obtain ⟨d,h1,h2⟩:=k.kind
 rw[hk] at h2
 cases d<;>simp[d9] at h2
 exact ⟨_,h1,h2⟩
theorem cR {t:TypeId} {ti:TI} (k:fc P t ti) {e:TypeId} (hk:ti.kind= .slice e):P.underlying t=some (.slice e):=by
 obtain ⟨d,h1,h2⟩:=k.kind
 rw[hk] at h2
 cases d<;>simp[d9] at h2
 subst h2;exact h1
theorem y4 {t:TypeId} {ti:TI} (k:fc P t ti) {n e:Nat} (hk:ti.kind= .array n e):P.underlying t=some (.array n e):=by
 obtain ⟨d,h1,h2⟩:=k.kind
 rw[hk] at h2
 unfold d9 at h2
 split at h2<;>simp_all
theorem ou {t:TypeId} {ti:TI} (k:fc P t ti) (hk:ti.kind= .str):P.underlying t=some .string:=by
 obtain ⟨d,h1,h2⟩:=k.kind
 rw[hk] at h2
 cases d<;>simp[d9] at h2
 exact h1
theorem E7 {t:TypeId} {ti:TI} (k:fc P t ti) (hk:ti.kind= .bool):P.underlying t=some .bool:=by
 obtain ⟨d,h1,h2⟩:=k.kind
 rw[hk] at h2
 cases d<;>simp[d9] at h2
 exact h1
theorem zW {t:TypeId} {ti:TI} (k:fc P t ti) {kd:IntKind} (hk:ti.kind= .int kd):P.underlying t=some (.int kd):=by
 obtain ⟨d,h1,h2⟩:=k.kind
 rw[hk] at h2
 cases d<;>simp[d9,kindEq_iff] at h2
 subst h2;exact h1
theorem sx {fields:Array Field} {fs:List (Nat×TypeId)} (hf:fields.toList.map (fun f=>(f.offset,f.type))=fs) {i off:Nat} {t:TypeId} (h:fs[i]? =some (off,t)):
 ∃f,fields[i]? =some f∧f.offset=off∧f.type=t:=by
 rw[←hf,List.getElem?_map] at h
 cases hq:fields.toList[i]? with
 |none=>rw[hq] at h;cases h
 |some f=>
  rw[hq] at h
  simp only[Option.map_some,Option.some.injEq,Prod.mk.injEq] at h
  exact ⟨f,by simpa using hq,h.1,h.2⟩
theorem xK {s t:TypeId} {ti tf:TI} (k:fc P s ti) (k':fc P t tf) {fs:List (Nat×TypeId)} (hk:ti.kind= .struct fs) {i off:Nat} (hi:fs[i]? =some (off,t)) (hz:tf.size≠0) (b o:Nat):
 (Instr.fieldAt s (.pointer (some ⟨b,o,none⟩)) i).run P w= .ok (.pointer (some ⟨b,o+off,none⟩)) w:=by
 obtain ⟨fields,h1,h2⟩:=ot k hk
 obtain ⟨f,h3,rfl,h4⟩:=sx h2 hi
 unfold Instr.fieldAt
 simp only[Sem.run_bind,run_underlying h1,Result.andThen_ok,h3,Instr.sureAddr,Sem.run_pure,rl k' hz f h4]
theorem xJ {t:TypeId} {ti:TI} (k:fc P t ti) {xs:List Value} {off:Nat} (hlen:((xs.drop off).take ti.size).length=ti.size):
 (part t xs.toArray off).run P w= .ok (if ti.isAgg then .agg ((xs.drop off).take ti.size).toArray else ((xs.drop off).take ti.size).getD 0 undef) w:=by
 unfold part
 simp only[Sem.run_bind,oy k,Result.andThen_ok]
 cases hag:ti.isAgg with
 |true=>
  simp only[if_true,Sem.run_bind,bz k,Result.andThen_ok,Sem.run_pure]
  congr 2
  apply Array.ext'
  simp only[Array.toList_extract,List.extract_eq_take_drop]
  congr 1
  omega
 |false=>
  have h1:=k.one hag
  simp only[Bool.false_eq_true,if_false]
  rw[h1] at hlen ⊢
  cases hd:xs.drop off with
  |nil=>rw[hd] at hlen;simp at hlen
  |cons c cs=>
   have:xs[off]? =some c:=by
    have:=congrArg (fun l=>l[0]?) hd
    simpa using this
   simp[this]
end
end Go.Vc
end
section
namespace Go.Vc
section
variable {P:Program} {T:List (Nat×TI)} {N:Nat→Prop} {w:World} {ν:Nat→Value}
theorem uX (off:Nat):∀(vs:List Value) (i:Nat) (cells:Array Value),off+i+vs.length≤cells.size→
 ((vs.zipIdx i).foldl (fun cs (p:Value×Nat)=>cs.setIfInBounds (off+p.2) p.1) cells).toList=cells.toList.take (off+i)++vs++cells.toList.drop (off+i+vs.length)
 |[],i,cells,h=>by simp
 |v::vs,i,cells,h=>by
  simp only[List.zipIdx_cons,List.foldl_cons]
  rw[uX off vs (i+1) _ (by simp at h ⊢;omega)]
  simp only[Array.toList_setIfInBounds,List.length_cons]
  simp only[List.length_cons] at h
  have hl:off+i<cells.toList.length:=by simp;omega
  have h1:(cells.toList.set (off+i) v).take (off+(i+1))=cells.toList.take (off+i)++[v]:=by
   apply List.ext_getElem?
   intro j
   simp only[List.getElem?_take,List.getElem?_set,List.getElem?_append,List.length_take]
   have hm:min (off+i) cells.toList.length=off+i:=by omega
   rw[hm]
   by_cases h1:j<off+i
   ·simp[h1,show j<off+(i+1) from by omega,show ¬off+i=j from by omega]
   ·by_cases h2:j=off+i
    ·subst h2;simp[show off+i<off+(i+1) from by omega];simpa using hl
    ·simp[h1,show ¬j<off+(i+1) from by omega,show j - (off+i)≠0 from by omega]
  have h2:(cells.toList.set (off+i) v).drop (off+(i+1)+vs.length)=cells.toList.drop (off+i+(vs.length+1)):=by
   apply List.ext_getElem?
   intro j
   simp only[List.getElem?_drop,List.getElem?_set]
   rw[if_neg (by omega)]
   congr 1
   omega
  rw[h1,h2]
  simp
theorem oY (v:Value) (off:Nat) (cells:Array Value) (h:off+v.cells.size≤cells.size):
 (v.cells.zipIdx.foldl (fun cs (c,j)=>cs.setIfInBounds (off+j) c) cells)=(cells.toList.take off++v.cells.toList++cells.toList.drop (off+v.cells.size)).toArray:=by
 have e:=uX off v.cells.toList 0 cells (by simpa using h)
 apply Array.ext'
 rw[←Array.foldl_toList,Array.toList_zipIdx]
 simpa using e
theorem yr {fields:List Field} (h:∀f∈fields,∃ti,look T f.type=some ti) (hT:bu P T=true):
 ∃places,fields.mapM (fun f=>(P.info? f.type).map fun i=>(f.offset,i.size))=some places∧
  ∀(i:Nat) f ti,fields[i]? =some f→look T f.type=some ti→places[i]? =some (f.offset,ti.size):=by
 induction fields with
 |nil=>exact ⟨[],rfl,by simp⟩
 |cons f fs ih=>
  obtain ⟨places,h1,h2⟩:=ih (fun g hg=>h g (List.mem_cons_of_mem _ hg))
  obtain ⟨ti,ht⟩:=h f List.mem_cons_self
  obtain ⟨i,z,hi,hs,_⟩:=(ae hT ht).info
  refine ⟨(f.offset,i.size)::places,by simp[List.mapM_cons,hi,h1],?_⟩
  intro j g tj hj hg
  cases j with
  |zero=>
   simp only[List.getElem?_cons_zero,Option.some.injEq] at hj
   subst hj
   rw[ht] at hg
   simp only[Option.some.injEq] at hg
   subst hg
   simp[hs]
  |succ j=>simpa using h2 j g tj (by simpa using hj) hg
theorem sw (hT:bu P T=true) {fs:List (Nat×TypeId)} {place:Nat→Option (Nat×Nat)} (hp:∀(i off:Nat) t ti,fs[i]? =some (off,t)→look T t=some ti→place i=some (off,ti.size)):
 ∀{parts:List (Nat×AV)} {vparts:List (Nat×Value)} {cs out:List AV} {xs:Array Value},lG fs T cs parts=some out→parts.map (·.1)=vparts.map (·.1)→Rv w N ν (parts.map (·.2)) (vparts.map (·.2))→
  Rv w N ν cs xs.toList→∃ys,Instr.fill place xs vparts=some ys∧Rv w N ν out ys.toList
 |[],[],cs,out,xs,h,_,_,hr=>by
  simp only[lG,Option.some.injEq] at h
  subst h
  exact ⟨xs,rfl,hr⟩
 |[],_::_,_,_,_,_,h,_,_=>by simp at h
 |_::_,[],_,_,_,_,h,_,_=>by simp at h
 |(i,x)::parts,(i',v)::vparts,cs,out,xs,h,he,hv,hr=>by
  simp only[List.map_cons,List.cons.injEq] at he
  obtain ⟨rfl,he⟩:=he
  simp only[List.map_cons] at hv
  obtain ⟨v',r',e,hx,hv'⟩:=hv.cons_inv
  simp only[List.cons.injEq] at e
  obtain ⟨rfl,rfl⟩:=e
  unfold lG at h
  split at h
  ·rename_i off t hi
   split at h
   ·rename_i ti ht
    split at h
    ·rename_i new hc
     cases hb:Nat.ble (off+new.length) cs.length<;>rw[hb] at h
     ·cases h
     ·simp only[cond_true] at h
      rw[Cw] at h
      obtain ⟨h1,h2,h3,h4⟩:=fS hx hc (ae hT ht).one
      have hb':=Nat.le_of_ble_eq_true hb
      have hlen:=hr.length
      have hsz:off+v.cells.size≤xs.size:=by
       have:xs.toList.length=xs.size:=by simp
       omega
      simp only[Instr.fill,hp i off t ti hi ht]
      rw[if_neg (by simp[h2];have:xs.toList.length=xs.size:=by simp
                    omega),oY v off xs hsz]
      refine sw hT hp h he hv' ?_
      unfold over
      have e1:v.cells.size=new.length:=by omega
      rw[e1]
      exact ((hr.take off).append h1).append (hr.drop _)
    ·cases h
   ·cases h
  ·cases h
theorem Eh (hT:bu P T=true) {t:TypeId} {ti:TI} (ht:look T t=some ti) {fs:List (Nat×TypeId)} (hk:ti.kind= .struct fs) (hall:fs.all (fun p=>(look T p.2).isSome)=true)
 {parts:List (Nat×AV)} {vparts:Array (Nat×Value)} {out:List AV} (h:lG fs T ti.zero parts=some out) (he:parts.map (·.1)=vparts.toList.map (·.1)) (hv:Rv w N ν (parts.map (·.2)) (vparts.toList.map (·.2))):
 ∃ys,(Instr.build t vparts).run P w= .ok (.agg ys) w∧Rv w N ν out ys.toList:=by
 have k:=ae hT ht
 obtain ⟨fields,hu,hf⟩:=ot k hk
 obtain ⟨i,z,hi,_,_,hz,hzz,_,_⟩:=k.info
 obtain ⟨places,hp1,hp2⟩:=yr (fields:=fields.toList) (fun f hf'=>by
  have hm:(f.offset,f.type)∈fs:=by rw[←hf];exact List.mem_map.2 ⟨f,hf',rfl⟩
  have:=List.all_eq_true.1 hall _ hm
  exact Option.isSome_iff_exists.1 this) hT
 obtain ⟨ys,h1,h2⟩:=sw (w:=w) (N:=N) (ν:=ν) hT (place:=fun x=>places.toArray[x]?) (fun j off t' tj hj hg=>by
  obtain ⟨f,hf1,rfl,rfl⟩:=sx hf hj
  have:=hp2 j f tj (by simpa using hf1) hg
  simpa using this) h he hv (fB hzz)
 refine ⟨ys,run_build w t vparts ys ?_,h2⟩
 unfold Program.built
 simp only[hi,hu,hz,hp1]
 exact h1
theorem CB (hT:bu P T=true) {t:TypeId} {ti te:TI} (ht:look T t=some ti) {m e:Nat} (hk:ti.kind= .array m e) (hte:look T e=some te)
 {parts:List (Nat×AV)} {vparts:Array (Nat×Value)} {out:List AV} (h:lG (Fa te.size e m) T ti.zero parts=some out) (he:parts.map (·.1)=vparts.toList.map (·.1)) (hv:Rv w N ν (parts.map (·.2)) (vparts.toList.map (·.2))):
 ∃ys,(Instr.build t vparts).run P w= .ok (.agg ys) w∧Rv w N ν out ys.toList:=by
 have k:=ae hT ht
 have hu:=y4 k hk
 obtain ⟨i,z,hi,_,_,hz,hzz,_,_⟩:=k.info
 obtain ⟨ie,ze,hie,hsz,_⟩:=(ae hT hte).info
 obtain ⟨ys,h1,h2⟩:=sw (w:=w) (N:=N) (ν:=ν) hT (place:=fun j=>some (j*ie.size,ie.size)) (fun j off t' tj hj hg=>by
  unfold Fa at hj
  rw[List.getElem?_map] at hj
  obtain ⟨j',hj',e1⟩:=Option.map_eq_some_iff.1 hj
  have hj2:=List.getElem?_eq_some_iff.1 hj'
  obtain ⟨hlt,e2⟩:=hj2
  rw[List.getElem_range] at e2
  subst e2
  injection e1 with e1 e3
  subst e1;subst e3
  rw[hte] at hg
  injection hg with hg
  subst hg
  rw[hsz]) h he hv (fB hzz)
 refine ⟨ys,run_build w t vparts ys ?_,h2⟩
 unfold Program.built
 simp only[hi,hu,hz,hie]
 exact h1
theorem ur {te:TI} (k1:te.isAgg=false→te.size=1) {l:List (Nat×AO)} {xs:List (Nat×AV)}:∀{parts:List (Nat×AV)} {vparts:List (Nat×Value)} {i:Nat} {rows:List (List D)} {cells:Array Value},
 oz te l i parts=some rows→parts.map (·.1)=vparts.map (·.1)→Rv w N ν (parts.map (fun p=>AV.view l p.2)) (vparts.map (·.2))→(i+parts.length)*te.size≤cells.size→
  ∃ys new,Instr.fill (fun j=>some (j*te.size,te.size)) cells vparts=some ys∧Rd w N rows.flatten new∧(∀r∈rows,r.length=te.size)∧rows.length=parts.length∧
   ys.toList=cells.toList.take (i*te.size)++new++cells.toList.drop ((i+parts.length)*te.size)
 |[],[],i,rows,cells,h,_,_,hsz=>by
  simp only[oz,Option.some.injEq] at h
  subst h
  exact ⟨cells,[],rfl,.nil,by simp,rfl,by simp⟩
 |[],_::_,_,_,_,_,h,_,_=>by simp at h
 |_::_,[],_,_,_,_,h,_,_=>by simp at h
 |(j,x)::parts,(j',v)::vparts,i,rows,cells,h,he,hv,hsz=>by
  simp only[List.map_cons,List.cons.injEq] at he
  obtain ⟨rfl,he⟩:=he
  simp only[List.map_cons] at hv
  obtain ⟨v',r',e,hx,hv'⟩:=hv.cons_inv
  simp only[List.cons.injEq] at e
  obtain ⟨rfl,rfl⟩:=e
  unfold oz at h
  cases hb:Nat.beq j i<;>rw[hb] at h
  ·cases h
  ·simp only[cond_true] at h
   have:=Nat.eq_of_beq_eq_true hb
   subst this
   split at h
   ·rename_i cs hc
    split at h
    ·rename_i ds hd
     obtain ⟨h1,h2,h3,h4⟩:=fS hx hc k1
     cases hr:oz te l (j+1) parts with
     |none=>rw[hr] at h;cases h
     |some rows'=>
      rw[hr] at h
      simp only[Option.map_some,Option.some.injEq] at h
      subst h
      simp only[List.length_cons] at hsz
      have hmul:(j+(parts.length+1))*te.size=j*te.size+te.size+parts.length*te.size:=by
       rw[Nat.add_mul,Nat.add_mul];omega
      have hsz':j*te.size+v.cells.size≤cells.size:=by rw[h2];omega
      have hf:=oY v (j*te.size) cells hsz'
      have hvl:v.cells.toList.length=te.size:=by simpa using h2
      have htl:(cells.toList.take (j*te.size)).length=j*te.size:=by simp;omega
      have hsize:(cells.toList.take (j*te.size)++v.cells.toList++cells.toList.drop (j*te.size+v.cells.size)).length=cells.size:=by
       simp only[List.length_append,htl,hvl,List.length_drop,Array.length_toList,h2];omega
      have hm1:(j+1)*te.size=j*te.size+te.size:=by rw[Nat.add_mul];omega
      obtain ⟨ys,new,g1,g2,g3,g4,g5⟩:=ur k1 (xs:=xs) (cells:=(cells.toList.take (j*te.size)++v.cells.toList++cells.toList.drop (j*te.size+v.cells.size)).toArray) hr he hv' (by
       rw[List.size_toArray,hsize]
       have:(j+1+parts.length)*te.size=j*te.size+te.size+parts.length*te.size:=by rw[Nat.add_mul,Nat.add_mul];omega
       omega)
      refine ⟨ys,v.cells.toList++new,?_,?_,?_,by simp[g4],?_⟩
      ·simp only[Instr.fill]
       rw[if_neg (by simp[h2];omega),hf]
       exact g1
      ·simp only[List.flatten_cons]
       exact (h1.dsOf hd).append g2
      ·intro r hr'
       rcases List.mem_cons.1 hr' with rfl|hr'
       ·have:=(h1.dsOf hd).length;omega
       ·exact g3 r hr'
      ·rw[g5]
       simp only[List.length_cons]
       have e1:(cells.toList.take (j*te.size)++v.cells.toList++cells.toList.drop (j*te.size+v.cells.size)).take ((j+1)*te.size)=cells.toList.take (j*te.size)++v.cells.toList:=by
        rw[hm1]
        have:(cells.toList.take (j*te.size)++v.cells.toList).length=j*te.size+te.size:=by rw[List.length_append,htl,hvl]
        rw[←this];exact List.take_left
       have e2:(cells.toList.take (j*te.size)++v.cells.toList++cells.toList.drop (j*te.size+v.cells.size)).drop ((j+1+parts.length)*te.size)=cells.toList.drop ((j+(parts.length+1))*te.size):=by
        have hl:(cells.toList.take (j*te.size)++v.cells.toList).length=j*te.size+te.size:=by rw[List.length_append,htl,hvl]
        have:(j+1+parts.length)*te.size=(cells.toList.take (j*te.size)++v.cells.toList).length+parts.length*te.size:=by rw[hl,Nat.add_mul,Nat.add_mul];omega
        rw[this,List.drop_append,List.drop_of_length_le (by omega),List.nil_append,h2,List.drop_drop]
        congr 1
        omega
       rw[e1,e2]
       simp
    ·cases h
   ·cases h
end
end Go.Vc
end
