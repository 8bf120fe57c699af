/- Part 1 of a proof: The package variables that the statement's row lists, and what they hold: printed by genlaws.py. A verification condition generator for the loaded Go code: abstract values, abstract heaps, and the condition 'vc' of a piece of code, computed by recursion. Its soundness is proved in the next texts. How abstract values stand for Go values in a world, and that this stands when the world goes on. Abstract heaps and states: what they say of a world and a frame, and the moves that keep it. The table of types, held against the program; what single operations do. What single operations do: those that o -/
import Derived.Calls
import Derived.Still
import Derived.Laws.AppendOwn
import Derived.Laws.CopyRow
import Derived.CallsIn
import Derived.RangeFuncCalls
import Derived.OrdersIn
import Derived.TacticsIn
section
namespace Go.Vc
def LG : List (Nat × Value) := [(0, .iface 326 (.agg #[.pointer (some ⟨1, 238, none⟩)]))]
end Go.Vc
end

section
namespace Go.Vc

abbrev Bs := List UInt8
def big : Nat := 1073741824

/-- Plain data, cell by cell: a number, a bool, a text, a slice of rows of cells. A struct is the list of its cells. -/
inductive D where
  | int (k : IntKind) (n : Int)
  | bool (b : Bool)
  | str (s : Bs)
  | list (rows : List (List D))
  | fn (f : FuncId)
  | raw (v : Value)

/-- What is known of a Go value. 'd': it reads as this data, in memory that nobody writes. 'own': a slice over a row of the call's own. 'ptr': the address of a cell of a block of the call's own. 'at_': the address of cells that read so. -/
inductive AV where
  | any
  | d (x : D)
  | nils
  | val (v : Value)
  | agg (cs : List AV)
  | tup (vs : List AV)
  | ptr (id off : Nat)
  | at_ (ds : List D)
  | rptr (id i sz off : Nat)
  | own (id : Nat)
  | mapr (id : Nat)
  | fn (f : FuncId) (caps : List AV)
  | bfn (f : FuncId) (first : List AV)
  | iface (t : TypeId) (x : AV)

inductive TK where
  | int (k : IntKind) | bool | str
  | slice (e : TypeId)
  | struct (fs : List (Nat × TypeId))
  | map (k e : TypeId)
  | array (n : Nat) (e : TypeId)
  | iface | ptr | func | other | pair
inductive AO where
  | cells (t : TypeId) (cs : List AV)
  | row (t : TypeId) (sz : Nat) (rows : List (List D))
  | map (t : TypeId) (tk : TK) (es : List (List D × AV))

/-- own objects by their names; names from nx on are free; names below lo came in -/
structure Heap where
  objs : List (Nat × AO)
  nx : Nat
  lo : Nat
def hp0 : Heap := ⟨[], 0, 0⟩

abbrev Env := Nat → AV
def Env.put (σ : Env) (k : Nat) (v : AV) : Env := fun j => bif Nat.beq j k then v else σ j
def Env.putO (σ : Env) (n : Nat) : Option Nat → AV → Env
  | none, _ => σ
  | some k, v => bif Nat.ble (k + 1) n then σ.put k v else σ

def look {α : Type} : List (Nat × α) → Nat → Option α
  | [], _ => none
  | (k, v) :: r, j => bif Nat.beq j k then some v else look r j
def Env.of (l : List (Nat × AV)) : Env := fun j => match look l j with | some v => v | none => .any
/-- the first slots -/
def Env.args (l : List AV) : Env := fun j => match l[j]? with | some v => v | none => .any

mutual
/-- 'own i' becomes 'b', other names of block i are forgotten -/
def AV.sub (i : Nat) (b : AV) : AV → AV
  | .agg cs => .agg (AV.subL i b cs)
  | .tup cs => .tup (AV.subL i b cs)
  | .ptr id off => bif Nat.beq id i then .any else .ptr id off
  | .rptr id k sz off => bif Nat.beq id i then .any else .rptr id k sz off
  | .own id => bif Nat.beq id i then b else .own id
  | .mapr id => bif Nat.beq id i then .any else .mapr id
  | .fn f cs => .fn f (AV.subL i b cs)
  | .bfn f cs => .bfn f (AV.subL i b cs)
  | .iface t x => .iface t (AV.sub i b x)
  | .any => .any
  | .d x => .d x
  | .nils => .nils
  | .val v => .val v
  | .at_ ds => .at_ ds
termination_by structural x => x
def AV.subL (i : Nat) (b : AV) : List AV → List AV
  | [] => []
  | c :: cs => AV.sub i b c :: AV.subL i b cs
termination_by structural x => x
end
mutual
/-- as data: a row of the call's own reads as a list -/
def AV.view (l : List (Nat × AO)) : AV → AV
  | .own id => match look l id with
    | some (.row _ _ rows) => .d (.list rows)
    | _ => .any
  | .nils => .d (.list [])
  | .agg cs => .agg (AV.viewL l cs)
  | .tup cs => .tup (AV.viewL l cs)
  | .iface t x => .iface t (AV.view l x)
  | .any => .any
  | .d x => .d x
  | .val (.bool b) => .d (.bool b)
  | .val v => .val v
  | .ptr _ _ => .any
  | .rptr _ _ _ _ => .any
  | .at_ ds => .at_ ds
  | .mapr _ => .any
  | .fn f cs => .fn f (AV.viewL l cs)
  | .bfn f cs => .bfn f (AV.viewL l cs)
termination_by structural x => x
def AV.viewL (l : List (Nat × AO)) : List AV → List AV
  | [] => []
  | c :: cs => AV.view l c :: AV.viewL l cs
termination_by structural x => x
end
mutual
def AV.owns : AV → List Nat
  | .own id => [id]
  | .agg cs => AV.ownsL cs
  | .tup cs => AV.ownsL cs
  | .iface _ x => AV.owns x
  | .fn _ cs => AV.ownsL cs
  | .bfn _ cs => AV.ownsL cs
  | .any => [] | .d _ => [] | .nils => [] | .val _ => [] | .ptr _ _ => [] | .rptr _ _ _ _ => [] | .at_ _ => [] | .mapr _ => []
termination_by structural x => x
def AV.ownsL : List AV → List Nat
  | [] => []
  | c :: cs => AV.owns c ++ AV.ownsL cs
termination_by structural x => x
end
mutual
/-- names only blocks below n -/
def AV.lt (n : Nat) : AV → Bool
  | .own id => Nat.ble (id + 1) n
  | .ptr id _ => Nat.ble (id + 1) n
  | .rptr id _ _ _ => Nat.ble (id + 1) n
  | .mapr id => Nat.ble (id + 1) n
  | .agg cs => AV.ltL n cs
  | .tup cs => AV.ltL n cs
  | .fn _ cs => AV.ltL n cs
  | .bfn _ cs => AV.ltL n cs
  | .iface _ x => AV.lt n x
  | .any => true | .d _ => true | .nils => true | .val _ => true | .at_ _ => true
termination_by structural x => x
def AV.ltL (n : Nat) : List AV → Bool
  | [] => true
  | c :: cs => AV.lt n c && AV.ltL n cs
termination_by structural x => x
end
mutual
/-- rows of the call's own are forgotten -/
def AV.noOwn : AV → AV
  | .agg cs => .agg (AV.noOwnL cs)
  | .tup cs => .tup (AV.noOwnL cs)
  | .ptr id off => .ptr id off
  | .rptr _ _ _ _ => .any
  | .own _ => .any
  | .mapr id => .mapr id
  | .fn f cs => .fn f (AV.noOwnL cs)
  | .bfn f cs => .bfn f (AV.noOwnL cs)
  | .iface t x => .iface t (AV.noOwn x)
  | .any => .any
  | .d x => .d x
  | .nils => .nils
  | .val v => .val v
  | .at_ ds => .at_ ds
termination_by structural x => x
def AV.noOwnL : List AV → List AV
  | [] => []
  | c :: cs => AV.noOwn c :: AV.noOwnL cs
termination_by structural x => x
end
def dsOf : List AV → Option (List D)
  | [] => some []
  | .d x :: r => (dsOf r).map (x :: ·)
  | .nils :: r => (dsOf r).map (.list [] :: ·)
  | .fn f [] :: r => (dsOf r).map (.fn f :: ·)
  | _ => none
/-- a cell as data -/
def flatA (l : List (Nat × AO)) : AV → AV
  | .own id => match look l id with
    | some (.row _ _ rows) => .d (.list rows)
    | _ => .any
  | .val (.bool b) => .d (.bool b)
  | a => a
mutual
/-- as data, boxes too: for calls that answer with a scalar -/
def AV.lookV (l : List (Nat × AO)) : AV → AV
  | .own id => match look l id with
    | some (.row _ _ rows) => .d (.list rows)
    | _ => .any
  | .ptr id off => match look l id with
    | some (.cells _ cs) => match dsOf ((cs.drop off).map (flatA l)) with
      | some (x :: r) => .at_ (x :: r)
      | _ => .any
    | _ => .any
  | .nils => .d (.list [])
  | .agg cs => .agg (AV.lookL l cs)
  | .tup cs => .tup (AV.lookL l cs)
  | .iface t x => .iface t (AV.lookV l x)
  | .any => .any
  | .d x => .d x
  | .val (.bool b) => .d (.bool b)
  | .val v => .val v
  | .rptr _ _ _ _ => .any
  | .at_ ds => .at_ ds
  | .mapr _ => .any
  | .fn f cs => .fn f (AV.lookL l cs)
  | .bfn f cs => .bfn f (AV.lookL l cs)
termination_by structural x => x
def AV.lookL (l : List (Nat × AO)) : List AV → List AV
  | [] => []
  | c :: cs => AV.lookV l c :: AV.lookL l cs
termination_by structural x => x
end
mutual
/-- rows of the call's own as slices of which only the length is known -/
def AV.lens (l : List (Nat × AO)) (g : Nat → Option Addr × Nat) : AV → AV
  | .own id => match look l id with
    | some (.row _ _ rows) => .val (.slice (g id).1 rows.length (g id).2)
    | _ => .any
  | .agg cs => .agg (AV.lensL l g cs)
  | .tup cs => .tup (AV.lensL l g cs)
  | .nils => .d (.list [])
  | .any => .any
  | .d x => .d x
  | .val (.bool b) => .d (.bool b)
  | .val v => .val v
  | .at_ ds => .at_ ds
  | .iface _ _ => .any
  | .ptr _ _ => .any
  | .rptr _ _ _ _ => .any
  | .mapr _ => .any
  | .fn _ _ => .any
  | .bfn _ _ => .any
termination_by structural x => x
def AV.lensL (l : List (Nat × AO)) (g : Nat → Option Addr × Nat) : List AV → List AV
  | [] => []
  | c :: cs => AV.lens l g c :: AV.lensL l g cs
termination_by structural x => x
end
mutual
/-- names moved on by k; rows alone -/
def AV.sh (k : Nat) : AV → AV
  | .own id => .own (id + k)
  | .agg cs => .agg (AV.shL k cs)
  | .tup cs => .tup (AV.shL k cs)
  | .nils => .nils
  | .any => .any
  | .d x => .d x
  | .val v => .val v
  | .at_ ds => .at_ ds
  | .iface _ _ => .any
  | .ptr _ _ => .any
  | .rptr _ _ _ _ => .any
  | .mapr _ => .any
  | .fn _ _ => .any
  | .bfn _ _ => .any
termination_by structural x => x
def AV.shL (k : Nat) : List AV → List AV
  | [] => []
  | c :: cs => AV.sh k c :: AV.shL k cs
termination_by structural x => x
end
def shO (k : Nat) (l0 : List (Nat × AO)) : List (Nat × AO) → List (Nat × AO) → List (Nat × AO)
  | [], l => l
  | (i, _) :: r, l => match look l0 i with
    | some (.row t sz rows) => (i + k, .row t sz rows) :: shO k l0 r l
    | _ => shO k l0 r l
/-- objects that a call made, beside those that are there -/
def Heap.join (h h' : Heap) : Heap := ⟨shO h.nx h'.objs h'.objs h.objs, h'.nx + h.nx, h.lo⟩
def subM (i : Nat) (b : AV) : List (List D × AV) → List (List D × AV)
  | [] => []
  | (k, a) :: r => (k, AV.sub i b a) :: subM i b r
def ltM (n : Nat) : List (List D × AV) → Prop
  | [] => True
  | (_, a) :: r => a.lt n = true ∧ ltM n r
def AO.sub (i : Nat) (b : AV) : AO → AO
  | .cells t cs => .cells t (AV.subL i b cs)
  | .row t sz rows => .row t sz rows
  | .map t tk es => .map t tk (subM i b es)
def subO (i : Nat) (b : AV) : List (Nat × AO) → List (Nat × AO)
  | [] => []
  | (k, o) :: r => (k, o.sub i b) :: subO i b r
def del {α : Type} (i : Nat) : List (Nat × α) → List (Nat × α)
  | [] => []
  | (k, o) :: r => bif Nat.beq k i then del i r else (k, o) :: del i r
def setO (i : Nat) (x : AO) : List (Nat × AO) → List (Nat × AO)
  | [] => []
  | (k, o) :: r => bif Nat.beq k i then (k, x) :: r else (k, o) :: setO i x r
def Env.sub (i : Nat) (b : AV) (σ : Env) : Env := fun k => AV.sub i b (σ k)
def Env.subs : List (Nat × AV) → Env → Env
  | [], σ => σ
  | (i, b) :: m, σ => Env.subs m (Env.sub i b σ)
def AV.subsL : List (Nat × AV) → List AV → List AV
  | [], as => as
  | (i, b) :: m, as => AV.subsL m (AV.subL i b as)
/-- what becomes of the slots' knowledge -/
inductive Rn where
  | sub (m : List (Nat × AV))
  | drop
def Env.ren : Rn → Env → Env
  | .sub m, σ => Env.subs m σ
  | .drop, σ => fun k => AV.noOwn (σ k)
def Heap.new (h : Heap) (o : AO) : Heap := ⟨(h.nx, o) :: h.objs, h.nx + 1, h.lo⟩
def Heap.set (h : Heap) (i : Nat) (o : AO) : Heap := ⟨setO i o h.objs, h.nx, h.lo⟩
/-- rows of the call's own become data that nobody writes -/
def pubs : List Nat → List (Nat × AO) → List (Nat × AO) × List (Nat × AV)
  | [], l => (l, [])
  | i :: is, l => match look l i with
    | some (.row _ _ rows) => match pubs is (subO i (.d (.list rows)) (del i l)) with
      | (l', m) => (l', (i, .d (.list rows)) :: m)
    | _ => pubs is l

structure TI where
  kind : TK
  size : Nat
  bytes : Nat
  zero : List AV
  meths : List (String × FuncId) := []
  pair : Bool := false
/-- the kind of a map's keys; 'pair': a struct of two texts -/
def TI.key (t : TI) : TK := bif t.pair then .pair else t.kind
def TI.isAgg (t : TI) : Bool := match t.kind with | .struct _ => true | .array _ _ => true | _ => false

def cst : Value → AV
  | .int k n => .d (.int k n)
  | .string s => match s.data.toList with
    | [] => .d (.str [])
    | c :: r => bif Nat.ble (c :: r).length big then .d (.str (c :: r)) else .any
  | .slice none 0 0 => .nils
  | v => .val v
def ev (σ : Env) : Operand → AV
  | .tmp t => σ t
  | .const v => cst v
  | .func f => .fn f []
  | .global _ => .any

/-- a bool that is decided stands as '.val'; as data: -/
def norm : AV → AV
  | .val (.bool b) => .d (.bool b)
  | a => a
def pickAV (t : Bool) (a b : AV) : AV :=
  match norm a, norm b with
  | .d (.bool x), .d (.bool y) => .d (.bool (bif t then x else y))
  | a, b => bif t then a else b

def bitsF (op : BinOp) (k : IntKind) (a b : Int) : Int := match op with
  | .and => k.wrap ((BitVec.ofInt k.bits a) &&& (BitVec.ofInt k.bits b)).toNat
  | _ => k.wrap ((BitVec.ofInt k.bits a) ||| (BitVec.ofInt k.bits b)).toNat
def binInt (op : BinOp) (k : IntKind) (a b : Int) : Option D :=
  match op with
  | .add => some (.int k (k.wrap (a + b)))
  | .sub => some (.int k (k.wrap (a - b)))
  | .mul => some (.int k (k.wrap (a * b)))
  | .and => some (.int k (bitsF op k a b))
  | .or => some (.int k (bitsF op k a b))
  | .eql => some (.bool (a == b))
  | .neq => some (.bool (a != b))
  | .lss => some (.bool (decide (a < b)))
  | .leq => some (.bool (decide (a ≤ b)))
  | .gtr => some (.bool (decide (a > b)))
  | .geq => some (.bool (decide (a ≥ b)))
  | _ => none
def binStr (op : BinOp) (a b : Bs) : Option D :=
  match op with
  | .eql => some (.bool (a == b))
  | .neq => some (.bool (!(a == b)))
  | .lss => some (.bool (Op.bytesLess a b))
  | .leq => some (.bool (Op.bytesLess a b || a == b))
  | .gtr => some (.bool (!(Op.bytesLess a b || a == b)))
  | .geq => some (.bool (!(Op.bytesLess a b)))
  | _ => none
def kindEq : IntKind → IntKind → Bool
  | .i8, .i8 | .i16, .i16 | .i32, .i32 | .i64, .i64 | .u8, .u8 | .u16, .u16 | .u32, .u32 | .u64, .u64 => true
  | _, _ => false
def bin (T : List (Nat × TI)) (t : TypeId) (op : BinOp) : AV → AV → Option D
  | .d (.int k a), .d (.int k' b) => bif kindEq k k' then binInt op k a b else none
  | .d (.str a), .d (.str b) => binStr op a b
  | .d (.bool a), .d (.bool b) => match look T t with
    | some ti => match ti.kind with
      | .bool => match op with
        | .eql => some (.bool (a == b))
        | .neq => some (.bool (!(a == b)))
        | _ => none
      | _ => none
    | none => none
  | _, _ => none

/-- an interface value beside the literal nil -/
def ifaceNil (T : List (Nat × TI)) (t : TypeId) (op : BinOp) (x : AV) : Option D := match look T t with
  | some ti => match ti.kind, op, x with
    | .iface, .eql, .iface _ _ => some (.bool false)
    | .iface, .neq, .iface _ _ => some (.bool true)
    | .iface, .eql, .val .nilIface => some (.bool true)
    | .iface, .neq, .val .nilIface => some (.bool false)
    | _, _, _ => none
  | none => none
def loadL (ti : TI) (cs : List AV) : Option AV :=
  bif ti.isAgg then (bif Nat.ble ti.size cs.length then some (.agg (cs.take ti.size)) else none) else cs.head?
def loadD (ti : TI) (cs : List D) : Option AV :=
  bif ti.isAgg then (bif Nat.ble ti.size cs.length then some (.agg ((cs.take ti.size).map .d)) else none) else (cs.head?).map .d
/-- a value that takes one cell -/
def AV.one : AV → Bool
  | .d _ | .nils | .ptr _ _ | .at_ _ | .rptr _ _ _ _ | .own _ | .mapr _ | .fn _ _ | .bfn _ _ | .iface _ _ => true
  | .val v => v.oneCell'
  | _ => false
def oneL : List AV → Bool
  | [] => true
  | c :: cs => c.one && oneL cs
/-- the cells of a value of a type -/
def cellsOf (ti : TI) : AV → Option (List AV)
  | .agg cs => bif ti.isAgg then (bif Nat.beq cs.length ti.size && oneL cs then some cs else none) else none
  | a => bif ti.isAgg then none else bif a.one then some [a] else none
def over (cs : List AV) (off : Nat) (new : List AV) : List AV := cs.take off ++ new ++ cs.drop (off + new.length)
def overD (cs : List D) (off : Nat) (new : List D) : List D := cs.take off ++ new ++ cs.drop (off + new.length)
def isNat : D → Option Int
  | .int _ n => some n
  | _ => none

/-- What an operation yields, where that is computed: the value, the heap, what is renamed. -/
abbrev Out := AV × Heap × Rn

/-- a list's spine is computed before one goes on -/
noncomputable def forceL {β : Type} (l : List AV) : (List AV → β) → β :=
  List.rec (motive := fun _ => (List AV → β) → β) (fun K => K []) (fun a _ ih K => ih fun l => K (a :: l)) l
theorem forceL_eq {β : Type} {l : List AV} : ∀ {K : List AV → β}, forceL l K = K l := by
  induction l with
  | nil => intro K; rfl
  | cons a l ih => intro K; exact ih (K := fun l => K (a :: l))
/-- the parts of a struct that is put together -/
noncomputable def fillA (fs : List (Nat × TypeId)) (T : List (Nat × TI)) : List AV → List (Nat × AV) → Option (List AV)
  | cs, [] => some cs
  | cs, (i, x) :: r => match fs[i]? with
    | some (off, t) => match look T t with
      | some ti => match cellsOf ti x with
        | some new => bif Nat.ble (off + new.length) cs.length then forceL (over cs off new) fun cs' => fillA fs T cs' r else none
        | none => none
      | none => none
    | none => none

/-- the places of an array's elements -/
def arrF (sz e n : Nat) : List (Nat × TypeId) := (List.range n).map fun i => (i * sz, e)
/-- the rows of a slice that is put together: its parts stand in order, all of them -/
def rowsOf (ti : TI) (l : List (Nat × AO)) : Nat → List (Nat × AV) → Option (List (List D))
  | _, [] => some []
  | n, (i, x) :: r => bif Nat.beq i n then match cellsOf ti (x.view l) with
      | some cs => match dsOf cs with
        | some ds => (rowsOf ti l (n + 1) r).map (ds :: ·)
        | none => none
      | none => none
    else none

noncomputable def opFun (T : List (Nat × TI)) (ρ : Operand → AV) (h : Heap) : Op → Option Out
  | .move x => some (ρ x, h, .sub [])
  | .assign x => some (ρ x, h, .sub [])
  | .pick c a b => match ρ c with
    | .d (.bool t) => some (pickAV t (ρ a) (ρ b), h, .sub [])
    | .val (.bool t) => some (bif t then ρ a else ρ b, h, .sub [])
    | _ => none
  | .box t x => match look T t with
    | some ti => match cellsOf ti (ρ x) with
      | some cs => some (.ptr h.nx 0, h.new (.cells t cs), .sub [])
      | none => none
    | none => none
  | .alloc t => match look T t with
    | some ti => some (.ptr h.nx 0, h.new (.cells t ti.zero), .sub [])
    | none => none
  | .build t parts => match look T t with
    | some ti => match ti.kind with
      | .struct fs => bif fs.all (fun p => (look T p.2).isSome) then (fillA fs T ti.zero (parts.toList.map fun p => (p.1, ρ p.2))).map fun cs => (.agg cs, h, .sub []) else none
      | .array n e => match look T e with
        | some te => (fillA (arrF te.size e n) T ti.zero (parts.toList.map fun p => (p.1, ρ p.2))).map fun cs => (.agg cs, h, .sub [])
        | none => none
      | _ => none
    | none => none
  | .buildSlice t len parts => match look T t with
    | some ti => match ti.kind with
      | .slice e => match look T e with
        | some te => bif Nat.beq len 0 then (bif Nat.ble 1 te.size && parts.toList.isEmpty then some (.own h.nx, h.new (.row e te.size []), .sub []) else none)
          else (bif Nat.beq parts.toList.length len && Nat.ble (len * te.size) 16777216 && Nat.ble 1 te.size then match rowsOf te h.objs 0 (parts.toList.map fun p => (p.1, ρ p.2)) with
            | some rows => match pubs (AV.ownsL (parts.toList.map fun p => ρ p.2)) h.objs with
              | (l, m) => some (.d (.list rows), ⟨l, h.nx, h.lo⟩, .sub m)
            | none => none else none)
        | none => none
      | _ => none
    | none => none
  | .load t a => match look T t with
    | some ti => match ρ a with
      | .ptr id off => match look h.objs id with
        | some (.cells _ cs) => (loadL ti (cs.drop off)).map (·, h, .sub [])
        | _ => none
      | .at_ ds => (loadD ti ds).map (·, h, .sub [])
      | .rptr id i sz off => match look h.objs id with
        | some (.row _ sz' rows) => bif Nat.beq sz sz' then (match rows[i]? with
          | some r => (loadD ti (r.drop off)).map (·, h, .sub [])
          | none => none) else none
        | _ => none
      | _ => none
    | none => none
  | .fieldAddr s x f => match look T s with
    | some ti => match ti.kind with
      | .struct fs => match fs[f]? with
        | some (off, t) => match look T t with
          | some tf => bif Nat.beq tf.size 0 then none else match ρ x with
            | .ptr id o => some (.ptr id (o + off), h, .sub [])
            | .at_ ds => match ds.drop off with
              | [] => none
              | x :: r => some (.at_ (x :: r), h, .sub [])
            | .rptr id i sz o => some (.rptr id i sz (o + off), h, .sub [])
            | _ => none
          | none => none
        | none => none
      | _ => none
    | none => none
  | .field s x f => match look T s with
    | some ti => match ti.kind with
      | .struct fs => match fs[f]? with
        | some (off, t) => match look T t, ρ x with
          | some tf, .agg cs => (loadL tf (cs.drop off)).map (·, h, .sub [])
          | _, _ => none
        | none => none
      | _ => none
    | none => none
  | .binOp op t x y _ => match y with
    | .const .nilIface => (ifaceNil T t op (ρ x)).map (.d ·, h, .sub [])
    | _ => (bin T t op (norm (ρ x)) (norm (ρ y))).map (.d ·, h, .sub [])
  | .unOp .not _ x => match ρ x with
    | .d (.bool b) => some (.d (.bool (!b)), h, .sub [])
    | .val (.bool b) => some (.val (.bool (!b)), h, .sub [])
    | _ => none
  | .extract x i => match ρ x with
    | .tup vs => (vs[i]?).map (·, h, .sub [])
    | _ => none
  | .nilCheck x => match ρ x with
    | .at_ ds => some (.at_ ds, h, .sub [])
    | .ptr id off => some (.ptr id off, h, .sub [])
    | .rptr id i sz off => some (.rptr id i sz off, h, .sub [])
    | _ => none
  | .makeFunc (.func f) first caps => bif first.toList.isEmpty then some (.fn f (caps.toList.map ρ), h, .sub []) else bif caps.toList.isEmpty then some (.bfn f (first.toList.map ρ), h, .sub []) else none
  | .makeInterface t x => match look T t with
    | some ti => match ti.kind with
      | .iface => none
      | _ => some (.iface t (ρ x), h, .sub [])
    | none => none
  | .makeMap t r => match look T t, r with
    | some ti, none => match ti.kind with
      | .map kt _ => match look T kt with
        | some tk => some (.mapr h.nx, h.new (.map t tk.key []), .sub [])
        | none => none
      | _ => none
    | _, _ => none
  | .convert src dst x => match look T src, look T dst with
    | some _, some ti => match ti.kind, ρ x with
      | .int k, .d (.int _ n) => some (.d (.int k (k.wrap n)), h, .sub [])
      | _, _ => none
    | _, _ => none
  | _ => none

def AV.scalar : AV → Bool
  | .d (.int _ _) => true
  | .d (.bool _) => true
  | .d (.str _) => true
  | _ => false

/-- the value is computed before one goes on -/
def forceV (r : AV) (K : AV → Prop) : Prop := match r with
  | .any => K .any
  | .d x => K (.d x)
  | .nils => K .nils
  | .val v => K (.val v)
  | .agg cs => K (.agg cs)
  | .tup vs => K (.tup vs)
  | .ptr id off => K (.ptr id off)
  | .at_ ds => K (.at_ ds)
  | .rptr id i sz off => K (.rptr id i sz off)
  | .own id => K (.own id)
  | .mapr id => K (.mapr id)
  | .fn f cs => K (.fn f cs)
  | .bfn f cs => K (.bfn f cs)
  | .iface t x => K (.iface t x)
theorem forceV_iff {r : AV} {K : AV → Prop} : forceV r K ↔ K r := by cases r <;> exact Iff.rfl
noncomputable def forceCs (l : List AV) : (List AV → Prop) → Prop :=
  List.rec (motive := fun _ => (List AV → Prop) → Prop) (fun K => K []) (fun a _ ih K => forceV a fun a => ih fun l => K (a :: l)) l
theorem forceCs_iff {l : List AV} : ∀ {K : List AV → Prop}, forceCs l K ↔ K l := by
  induction l with
  | nil => exact Iff.rfl
  | cons a l ih => intro K; exact (forceV_iff (K := fun a => forceCs l fun l => K (a :: l))).trans (ih (K := fun l => K (a :: l)))
noncomputable def forceOne (o : AO) (K : AO → Prop) : Prop := match o with
  | .cells t cs => forceCs cs fun cs => K (.cells t cs)
  | .row t sz rows => K (.row t sz rows)
  | .map t tk es => K (.map t tk es)
theorem forceOne_iff {o : AO} {K : AO → Prop} : forceOne o K ↔ K o := by
  cases o with
  | cells t cs => exact forceCs_iff
  | row t sz rows => exact Iff.rfl
  | map t tk es => exact Iff.rfl
noncomputable def forceOs (l : List (Nat × AO)) : (List (Nat × AO) → Prop) → Prop :=
  List.rec (motive := fun _ => (List (Nat × AO) → Prop) → Prop) (fun K => K []) (fun p _ ih K => match p with | (k, o) => forceOne o fun o => ih fun l => K ((k, o) :: l)) l
theorem forceOs_iff {l : List (Nat × AO)} : ∀ {K : List (Nat × AO) → Prop}, forceOs l K ↔ K l := by
  induction l with
  | nil => exact Iff.rfl
  | cons p l ih => obtain ⟨k, o⟩ := p; intro K; exact (forceOne_iff (K := fun o => forceOs l fun l => K ((k, o) :: l))).trans (ih (K := fun l => K ((k, o) :: l)))
noncomputable def forceH (h : Heap) (K : Heap → Prop) : Prop := match h with | ⟨objs, nx, lo⟩ => forceOs objs fun objs => K ⟨objs, nx, lo⟩
theorem forceH_iff {h : Heap} {K : Heap → Prop} : forceH h K ↔ K h := forceOs_iff
/-- WHAT A CONTRACT SAYS (its meaning is given in the next text). -/
structure Specs where
  pure : FuncId → List AV → AV → Prop
  heap : FuncId → List AV → Heap → AV → Heap → Prop
  iter : FuncId → List AV → Heap → List (List AV → Prop) → Prop

def shiftF (op : BinOp) (k : IntKind) (x y : Int) : Int := match op with
  | .shl => k.wrap (x * 2 ^ (min y.toNat k.bits))
  | _ => x.fdiv (2 ^ (min y.toNat k.bits))
def isShift : BinOp → Bool
  | .shl | .shr => true
  | _ => false
/-- a bound of a slice expression -/
def bound (ρ : Operand → AV) (z : Int) : Option Operand → Option Int
  | none => some z
  | some x => match ρ x with
    | .d (.int _ n) => some n
    | _ => none
/-- What an operation yields under a condition. -/
def opFunC (T : List (Nat × TI)) (ρ : Operand → AV) (h : Heap) : Op → Option (Prop × AV × Heap × Rn)
  | .binOp op _ x y _ => bif isShift op then (match ρ x, ρ y with
    | .d (.int k a), .d (.int _ b) => some (0 ≤ b, .d (.int k (shiftF op k a b)), h, .sub [])
    | _, _ => none) else none
  | .slice t x lo hi none => match look T t, ρ x with
    | some ti, .d (.str s) => match ti.kind, bound ρ 0 lo, bound ρ s.length hi with
      | .str, some l, some u => some (0 ≤ l ∧ l ≤ u ∧ u ≤ s.length, .d (.str ((s.take u.toNat).drop l.toNat)), h, .sub [])
      | _, _, _ => none
    | some ti, .d (.list s) => match ti.kind, bound ρ 0 lo, bound ρ s.length hi with
      | .slice e, some l, some u => match look T e with
        | some te => some (0 ≤ l ∧ l ≤ u ∧ u ≤ s.length ∧ ∀ r ∈ s, r.length = te.size, .d (.list ((s.take u.toNat).drop l.toNat)), h, .sub [])
        | none => none
      | _, _, _ => none
    | _, _ => none
  | _ => none
/-- what is computed, plainly or under a condition -/
noncomputable def vcElse (T : List (Nat × TI)) (ρ : Operand → AV) (h : Heap) (o : Op) (K : AV → Heap → Rn → Prop) : Prop := match opFun T ρ h o with
  | some (r, h', m) => K r h' m
  | none => match opFunC T ρ h o with
    | some (c, r, h', m) => c ∧ K r h' m
    | none => False

/-- keys of maps -/
def keyEq : List D → List D → Bool
  | [.int k a], [.int k' b] => kindEq k k' && a == b
  | [.str a], [.str b] => a == b
  | [.bool a], [.bool b] => a == b
  | [.str a, .str b], [.str c, .str d] => a == c && b == d
  | _, _ => false
def keyOk : TK → List D → Bool
  | .int k, [.int k' _] => kindEq k k'
  | .str, [.str _] => true
  | .bool, [.bool _] => true
  | .pair, [.str _, .str _] => true
  | _, _ => false
/-- a key as data -/
def keyDs : AV → Option (List D)
  | .d x => some [x]
  | .agg [.d x, .d y] => some [x, y]
  | .val (.bool b) => some [.bool b]
  | _ => none
/-- the place of a key -/
def mapAt : List (List D × AV) → List D → Nat → Option (Nat × AV)
  | [], _, _ => none
  | (k', a) :: r, k, i => match keyEq k k' with
    | true => some (i, a)
    | false => mapAt r k (i + 1)
def mapLook : List (List D × AV) → List D → Option AV
  | [], _ => none
  | (k', a) :: r, k => match keyEq k k' with
    | true => some a
    | false => mapLook r k
def mapPut : List (List D × AV) → List D → AV → List (List D × AV)
  | [], k, v => [(k, v)]
  | (k', a) :: r, k, v => match keyEq k k' with
    | true => (k', v) :: r
    | false => (k', a) :: mapPut r k v
def zeroOf (ti : TI) : AV := bif ti.isAgg then .agg ti.zero else match ti.zero with | a :: _ => a | [] => .any

noncomputable def vcCall (S : Specs) (f : FuncId) (args : List AV) (h : Heap) (K : AV → Heap → Rn → Prop) : Prop :=
  (∃ r, S.pure f (AV.viewL h.objs args) r ∧
    match AV.scalar r with
    | true => K r h (.sub [])
    | false => match pubs (AV.ownsL args) h.objs with
      | (l, m) => K r ⟨l, h.nx, h.lo⟩ (.sub m)) ∨
  (∃ r h', S.heap f args h r h' ∧ K r h' .drop) ∨
  (∃ r h', (match pubs (AV.ownsL args) h.objs with | (l, m) => S.heap f (AV.subsL m args) ⟨l, h.nx, h.lo⟩ r h') ∧ K r h' .drop) ∨
  (∃ r, AV.scalar r = true ∧ S.pure f (AV.lookL h.objs args) r ∧ K r h (.sub [])) ∨
  (∃ r, (∀ g, S.pure f (AV.lensL h.objs g args) r) ∧ K r h (.sub [])) ∨
  ∃ r h', AV.ltL 0 args = true ∧ S.heap f args hp0 r h' ∧ forceH (h.join h') fun h1 => K (AV.sh h.nx r) h1 (.sub [])

def vcLen (k : TK) (h : Heap) (x : AV) (K : AV → Heap → Rn → Prop) : Prop :=
  match k, x with
  | .str, .d (.str s) => K (.d (.int .i64 s.length)) h (.sub [])
  | .slice _, .d (.list s) => K (.d (.int .i64 s.length)) h (.sub [])
  | .slice _, .nils => K (.d (.int .i64 0)) h (.sub [])
  | .slice _, .own id => match look h.objs id with
    | some (.row _ _ rows) => K (.d (.int .i64 rows.length)) h (.sub [])
    | _ => False
  | .slice _, .val (.slice _ n _) => K (.d (.int .i64 n)) h (.sub [])
  | _, _ => False
/-- copy, from as many elements as there are places -/
def vcCopy (T : List (Nat × TI)) (h : Heap) (t : TypeId) (s x : AV) (K : AV → Heap → Rn → Prop) : Prop :=
  match look T t, x, s with
  | some ti, .d (.list new), .own id => match ti.kind, look h.objs id with
    | .slice e, some (.row e' sz rows) => match look T e with
      | some te => (Nat.beq e e' && Nat.beq sz te.size && Nat.beq te.size 1) = true ∧ new.length = rows.length ∧ 0 < new.length ∧ (∀ r ∈ new, r.length = 1) ∧
          K (.d (.int .i64 new.length)) (h.set id (.row e sz new)) (.sub [])
      | none => False
    | _, _ => False
  | _, _, _ => False
/-- the elements that are appended -/
def addRows (l : List (Nat × AO)) : AV → Option (List (List D))
  | .d (.list rows) => some rows
  | .nils => some []
  | .own id => match look l id with
    | some (.row _ _ rows) => some rows
    | _ => none
  | _ => none
def vcAppend (T : List (Nat × TI)) (h : Heap) (t t2 : TypeId) (s x : AV) (K : AV → Heap → Rn → Prop) : Prop :=
  match look T t, addRows h.objs x with
  | some ti, some new => match ti.kind with
    | .slice e => match look T e with
      | some te => (Nat.beq t t2 && Nat.ble te.bytes 131072 && Nat.ble 1 te.size) = true ∧ (∀ r ∈ new, r.length = te.size) ∧ match s with
        | .own id => match look h.objs id with
          | some (.row e' sz rows) => (Nat.beq e e' && Nat.beq sz te.size) = true ∧ rows.length + new.length ≤ big ∧
              K (.own id) ⟨setO id (.row e sz (rows ++ new)) (subO id .any h.objs), h.nx, h.lo⟩ (.sub [(id, .any)])
          | _ => False
        | .nils => new.length ≤ big ∧ K (.own h.nx) (h.new (.row e te.size new)) (.sub [])
        | _ => False
      | none => False
    | _ => False
  | _, _ => False

def vcPut (T : List (Nat × TI)) (ρ : Operand → AV) (h : Heap) (t : TypeId) (x k v : Operand) (K : AV → Heap → Rn → Prop) : Prop :=
  match look T t with
  | some ti => match ti.kind with
    | .map kt _ => match look T kt, ρ x, keyDs (ρ k) with
      | some tk, .mapr id, some key => match look h.objs id with
        | some (.map t' tk' es) => (Nat.beq t t' && keyOk tk.key key && keyOk tk' key && (ρ v).one) = true ∧ K (.val undef) (h.set id (.map t' tk' (mapPut es key (ρ v)))) (.sub [])
        | _ => False
      | _, _, _ => False
    | _ => False
  | none => False

def vcEntry (T : List (Nat × TI)) (ρ : Operand → AV) (h : Heap) (t : TypeId) (x k : Operand) (K : AV → Heap → Rn → Prop) : Prop :=
  match look T t with
  | some ti => match ti.kind with
    | .map kt vt => match look T kt, look T vt, ρ x, keyDs (ρ k) with
      | some tk, some tv, .mapr id, some key => match look h.objs id with
        | some (.map t' tk' es) => (Nat.beq t t' && keyOk tk.key key && keyOk tk' key && (zeroOf tv).one) = true ∧ ∃ r, mapAt es key 0 = r ∧ match r with
          | some (j, v) => K (.tup [v, .d (.int .i64 j)]) h (.sub [])
          | none => K (.tup [zeroOf tv, .d (.int .i64 es.length)]) (h.set id (.map t' tk' (es ++ [(key, zeroOf tv)]))) (.sub [])
        | _ => False
      | _, _, _, _ => False
    | _ => False
  | none => False
def vcEStore (ρ : Operand → AV) (h : Heap) (x s v : Operand) (K : AV → Heap → Rn → Prop) : Prop :=
  match ρ x, ρ s with
  | .mapr id, .d (.int _ j) => match look h.objs id with
    | some (.map t' tk' es) => (ρ v).one = true ∧ 0 ≤ j ∧ ∃ p, es[j.toNat]? = some p ∧ K (.val undef) (h.set id (.map t' tk' (es.set j.toNat (p.1, ρ v)))) (.sub [])
    | _ => False
  | _, _ => False
/-- a row's place, read -/
def rowGet (l : List (Nat × AO)) (id sz i : Nat) : Option (List D) := match look l id with
  | some (.row _ sz' rows) => bif Nat.beq sz sz' then rows[i]? else none
  | _ => none
noncomputable def vcOp (T : List (Nat × TI)) (S : Specs) (ρ : Operand → AV) (h : Heap) (o : Op) (K : AV → Heap → Rn → Prop) : Prop :=
  match o with
  | .call c => match c.callee with
    | .value f => match ρ f with
      | .fn f caps => vcCall S f (c.args.toList.map ρ ++ caps) h K
      | .d (.fn f) => vcCall S f (c.args.toList.map ρ ++ []) h K
      | .bfn f first => vcCall S f (first ++ c.args.toList.map ρ) h K
      | _ => False
    | .invoke x name => match ρ x with
      | .iface t v => match look T t with
        | some ti => match ti.kind with
          | .ptr => False
          | _ => match ti.meths.lookup name with
            | some f => vcCall S f (v :: c.args.toList.map ρ) h K
            | none => False
        | none => False
      | _ => False
    | .builtin .len => match c.args.toList, c.argTypes.toList with
      | [x], [t] => match look T t with
        | some ti => vcLen ti.kind h (ρ x) K
        | none => False
      | _, _ => False
    | .builtin .append => match c.args.toList, c.argTypes.toList with
      | [s, x], [t, t2] => vcAppend T h t t2 (ρ s) (ρ x) K
      | _, _ => False
    | .builtin .copy => match c.args.toList, c.argTypes.toList with
      | [s, x], [t, _] => vcCopy T h t (ρ s) (ρ x) K
      | _, _ => False
    | _ => False
  | .index t x i => match look T t with
    | some ti => match ti.kind, ρ x, ρ i with
      | .str, .d (.str s), .d (.int _ i) => 0 ≤ i ∧ ∃ b, s[i.toNat]? = some b ∧ K (.d (.int .u8 b.toNat)) h (.sub [])
      | .array n e, .agg cs, .d (.int _ i) => (0 ≤ i ∧ i < n) ∧ match look T e with
        | some te => ∃ r, loadL te (cs.drop (i.toNat * te.size)) = some r ∧ K r h (.sub [])
        | none => False
      | _, _, _ => False
    | none => False
  | .indexAddr t x i => match look T t with
    | some ti => match ti.kind with
      | .slice e => match look T e with
        | some te => Nat.ble 1 te.size = true ∧ match ρ x, ρ i with
          | .d (.list s), .d (.int _ i) => 0 ≤ i ∧ ∃ b, s[i.toNat]? = some b ∧ b.length = te.size ∧ K (.at_ b) h (.sub [])
          | .own id, .d (.int _ i) => match look h.objs id with
            | some (.row _ sz rows) => Nat.beq sz te.size = true ∧ 0 ≤ i ∧ i < rows.length ∧ K (.rptr id i.toNat sz 0) h (.sub [])
            | _ => False
          | _, _ => False
        | none => False
      | _ => False
    | none => False
  | .store t a x => match look T t with
    | some ti => match cellsOf ti (ρ x), ρ a with
      | some new, .ptr id off => match look h.objs id with
        | some (.cells t' cs) => Nat.ble (off + new.length) cs.length = true ∧ K (.val undef) (h.set id (.cells t' (over cs off new))) (.sub [])
        | _ => False
      | some new, .rptr id i sz' off => match look h.objs id, dsOf (new.map norm) with
        | some (.row e sz rows), some ds => Nat.beq sz' sz = true ∧ ∃ r, rows[i]? = some r ∧ off + ds.length ≤ r.length ∧ K (.val undef) (h.set id (.row e sz (rows.set i (overD r off ds)))) (.sub [])
        | _, _ => False
      | _, _ => False
    | none => False
  | .makeSlice t len cap => match look T t with
    | some ti => match ti.kind with
      | .slice e => match look T e with
        | some te => match dsOf te.zero, ρ len, ρ cap with
          | some z, .d (.int .i64 l), .d (.int .i64 c) => (Nat.ble te.bytes 131072 && Nat.ble 1 te.size && Nat.beq z.length te.size) = true ∧ 0 ≤ l ∧ l ≤ c ∧ c ≤ big ∧ K (.own h.nx) (h.new (.row e te.size (List.replicate l.toNat z))) (.sub [])
          | _, _, _ => False
        | none => False
      | _ => False
    | none => False
  | .lookup t x k ok => match look T t with
    | some ti => match ti.kind with
      | .map kt vt => match look T kt, look T vt, ρ x, keyDs (ρ k) with
        | some tk, some tv, .mapr id, some key => match look h.objs id with
          | some (.map t' tk' es) => (Nat.beq t t' && keyOk tk.key key && keyOk tk' key) = true ∧ ∃ r, mapLook es key = r ∧ match r with
            | some v => K (match ok with | true => .tup [v, .val (.bool true)] | false => v) h (.sub [])
            | none => K (match ok with | true => .tup [zeroOf tv, .val (.bool false)] | false => zeroOf tv) h (.sub [])
          | _ => False
        | _, _, _, _ => False
      | _ => False
    | none => False
  | .load t a => match ρ a with
    | .rptr id i sz off => ∃ r, rowGet h.objs id sz i = some r ∧ match look T t with
      | some ti => match loadD ti (r.drop off) with
        | some v => K v h (.sub [])
        | none => False
      | none => False
    | _ => match opFun T ρ h (.load t a) with
      | some (r, h', m) => K r h' m
      | none => False
  | .mapUpdate t x k v => vcPut T ρ h t x k v K
  | .insert t x k v => vcPut T ρ h t x k v K
  | .mapEntry t x k => vcEntry T ρ h t x k K
  | .entryStore _ x s v => vcEStore ρ h x s v K
  | o => vcElse T ρ h o K

theorem load_iff {T : List (Nat × TI)} {S : Specs} {ρ : Operand → AV} {h : Heap} {t : TypeId} {a : Operand} {K : AV → Heap → Rn → Prop} :
    vcOp T S ρ h (.load t a) K ↔ match opFun T ρ h (.load t a) with | some (r, h', m) => K r h' m | none => False := by
  simp only [vcOp]
  split
  · rename_i id i sz off e
    simp only [opFun, e, rowGet]
    cases look T t with
    | none => simp
    | some ti =>
      cases look h.objs id with
      | none => simp
      | some o =>
        cases o with
        | row t' sz' rows =>
          cases hb : Nat.beq sz sz' with
          | false => simp [hb]
          | true =>
            simp only [hb, cond_true]
            cases rows[i]? with
            | none => simp
            | some r =>
              simp only [Option.some.injEq, exists_eq_left']
              cases loadD ti (r.drop off) <;> simp
        | cells _ _ => simp
        | map _ _ _ => simp
  · exact Iff.rfl
def putK (σ : Env) (m : Rn) (n : Nat) (d : Option Nat) (r : AV) (K : Env → Prop) : Prop := match m with
  | .sub [] => match d with
    | none => K σ
    | some k => match Nat.ble (k + 1) n with
      | true => forceV r fun r => K (σ.put k r)
      | false => K σ
  | .sub ((i, b) :: l) => forceV r fun r => K ((σ.ren (.sub ((i, b) :: l))).putO n d r)
  | .drop => forceV r fun r => K ((σ.ren .drop).putO n d r)
theorem putK_iff {σ : Env} {m : Rn} {n : Nat} {d : Option Nat} {r : AV} {K : Env → Prop} : putK σ m n d r K ↔ K ((σ.ren m).putO n d r) := by
  unfold putK
  split
  · cases d with
    | none => exact Iff.rfl
    | some k =>
      simp only [Env.ren, Env.subs, Env.putO]
      cases Nat.ble (k + 1) n
      · exact Iff.rfl
      · exact forceV_iff
  · exact forceV_iff
  · exact forceV_iff

/-- where an operation turned the heap, its spine is computed -/
noncomputable def heapK (o : Op) (h : Heap) (K : Heap → Prop) : Prop := match o with
  | .store _ _ _ => forceH h K
  | .box _ _ => forceH h K
  | .alloc _ => forceH h K
  | .makeMap _ _ => forceH h K
  | .makeSlice _ _ _ => forceH h K
  | .mapUpdate _ _ _ _ => forceH h K
  | .insert _ _ _ _ => forceH h K
  | .mapEntry _ _ _ => forceH h K
  | .entryStore _ _ _ _ => forceH h K
  | _ => K h
theorem heapK_iff {o : Op} {h : Heap} {K : Heap → Prop} : heapK o h K ↔ K h := by
  unfold heapK
  split <;> first | exact Iff.rfl | exact forceOs_iff

/-- a guard that is not decided -/
def br : Bool → Bool → Prop → Prop → Prop
  | true, b, A, B => (b = true → A) ∧ (b = false → B)
  | false, b, A, B => (b = false → A) ∧ (b = true → B)
noncomputable def vcOpsStep (T : List (Nat × TI)) (S : Specs) (n : Nat) (ops : Array Oper) (o : Oper) (ih : Env → Heap → (Env → Heap → Prop) → Prop) (σ : Env) (h : Heap) (K : Env → Heap → Prop) : Prop :=
  match o.guard with
  | none => vcOp T S (ev σ) h o.op fun r h' m => putK σ m n o.dst r fun σ' => heapK o.op h' fun h'' => ih σ' h'' K
  | some (g, want) => match (ops[g]?).bind (·.dst) with
    | none => False
    | some gd => match σ gd with
      | .d (.bool b) =>
        br want b (vcOp T S (ev (σ.put gd (.val (.bool want)))) h o.op fun r h' m => putK (σ.put gd (.val (.bool want))) m n o.dst r fun σ' => heapK o.op h' fun h'' => ih σ' h'' K)
          (ih ((σ.put gd (.val (.bool (!want)))).putO n o.dst (.val undef)) h K)
      | .val (.bool b) => match b == want with
        | true => vcOp T S (ev σ) h o.op fun r h' m => putK σ m n o.dst r fun σ' => heapK o.op h' fun h'' => ih σ' h'' K
        | false => ih (σ.putO n o.dst (.val undef)) h K
      | .val (.tuple _) => ih (σ.putO n o.dst (.val undef)) h K
      | _ => False
/-- Written with the recursor itself: so the kernel and the elaborator come to the very same terms. -/
noncomputable def vcOps (T : List (Nat × TI)) (S : Specs) (n : Nat) (ops : Array Oper) (l : List Oper) : Env → Heap → (Env → Heap → Prop) → Prop :=
  List.rec (motive := fun _ => Env → Heap → (Env → Heap → Prop) → Prop) (fun σ h K => K σ h) (fun o _ ih => vcOpsStep T S n ops o ih) l
theorem vcOps_cons {T : List (Nat × TI)} {S : Specs} {n : Nat} {ops : Array Oper} {o : Oper} {l : List Oper} {σ : Env} {h : Heap} {K : Env → Heap → Prop} : vcOps T S n ops (o :: l) σ h K = vcOpsStep T S n ops o (vcOps T S n ops l) σ h K := rfl

/-- In a region that draws its order: no operation turns the heap. -/
def remD : Option Nat → List (Nat × Bool) → List (Nat × Bool)
  | none, l => l
  | some d, l => del d l
/-- 'dec': which guards are decided -/
noncomputable def vcPureStep (T : List (Nat × TI)) (S : Specs) (n : Nat) (ops : Array Oper) (o : Oper) (ih : List (Nat × Bool) → Env → Heap → (Env → Prop) → Prop) (dec : List (Nat × Bool)) (σ : Env) (h : Heap) (K : Env → Prop) : Prop :=
  match o.guard with
  | none => vcOp T S (ev σ) h o.op fun r h' m => h' = h ∧ m = .sub [] ∧ putK σ (.sub []) n o.dst r fun σ' => ih (remD o.dst dec) σ' h K
  | some (g, want) => match (ops[g]?).bind (·.dst) with
    | none => False
    | some gd => match look dec gd with
      | some b => match b == want with
        | true => vcOp T S (ev σ) h o.op fun r h' m => h' = h ∧ m = .sub [] ∧ putK σ (.sub []) n o.dst r fun σ' => ih (remD o.dst dec) σ' h K
        | false => ih (remD o.dst dec) (σ.putO n o.dst (.val undef)) h K
      | none => match σ gd with
        | .d (.bool b) =>
          br want b (vcOp T S (ev (σ.put gd (.d (.bool want)))) h o.op fun r h' m => h' = h ∧ m = .sub [] ∧ putK (σ.put gd (.d (.bool want))) (.sub []) n o.dst r fun σ' => ih (remD o.dst ((gd, want) :: dec)) σ' h K)
            (ih (remD o.dst ((gd, !want) :: dec)) ((σ.put gd (.d (.bool (!want)))).putO n o.dst (.val undef)) h K)
        | .val (.bool b) => match b == want with
          | true => vcOp T S (ev σ) h o.op fun r h' m => h' = h ∧ m = .sub [] ∧ putK σ (.sub []) n o.dst r fun σ' => ih (remD o.dst dec) σ' h K
          | false => ih (remD o.dst dec) (σ.putO n o.dst (.val undef)) h K
        | .val (.tuple _) => ih (remD o.dst dec) (σ.putO n o.dst (.val undef)) h K
        | _ => False
noncomputable def vcPure (T : List (Nat × TI)) (S : Specs) (n : Nat) (ops : Array Oper) (l : List Oper) : List (Nat × Bool) → Env → Heap → (Env → Prop) → Prop :=
  List.rec (motive := fun _ => List (Nat × Bool) → Env → Heap → (Env → Prop) → Prop) (fun _ σ _ K => K σ) (fun o _ ih => vcPureStep T S n ops o ih) l
theorem vcPure_cons' {T : List (Nat × TI)} {S : Specs} {n : Nat} {ops : Array Oper} {o : Oper} {l : List Oper} {dec : List (Nat × Bool)} {σ : Env} {h : Heap} {K : Env → Prop} : vcPure T S n ops (o :: l) dec σ h K = vcPureStep T S n ops o (vcPure T S n ops l) dec σ h K := rfl

/-- weaker knowledge -/
def leE : List (Nat × AV) → Env → Prop
  | [], _ => True
  | (k, v) :: l, σ => (match v with | .d (.bool _) => norm (σ k) = v | v => σ k = v) ∧ leE l σ
def ltE (n : Nat) : List (Nat × AV) → Bool
  | [] => true
  | (_, v) :: l => v.lt n && ltE n l
def leO : List (Nat × AO) → List (Nat × AO) → Prop
  | [], _ => True
  | (k, o) :: l, l' => look l' k = some o ∧ leO l l'
def ltO (n : Nat) : List (Nat × AO) → Prop
  | [] => True
  | (k, .cells _ cs) :: l => (Nat.ble (k + 1) n && AV.ltL n cs) = true ∧ ltO n l
  | (k, .row _ _ _) :: l => Nat.ble (k + 1) n = true ∧ ltO n l
  | (k, .map _ _ es) :: l => (Nat.ble (k + 1) n = true ∧ ltM n es) ∧ ltO n l
/-- The knowledge (l, h') follows from (σ, h): what a loop's invariant keeps. -/
def Weak (σ : Env) (h : Heap) (l : List (Nat × AV)) (h' : Heap) : Prop :=
  (Nat.ble h'.nx h.nx && Nat.beq h'.lo h.lo && Nat.ble h'.lo h'.nx) = true ∧ ltE h'.nx l = true ∧ leE l σ ∧ ltO h'.nx h'.objs ∧ leO h'.objs h.objs

abbrev VcT := Env → Heap → (Exit → Env → Heap → Prop) → Prop
def thenK (b : VcT) (Q : Exit → Env → Heap → Prop) (e : Exit) (σ : Env) (h : Heap) : Prop := match e with
  | .normal => b σ h Q
  | e => Q e σ h
def blockK (id : Nat) (Q : Exit → Env → Heap → Prop) (e : Exit) (σ : Env) (h : Heap) : Prop := match e with
  | .exit id' => bif Nat.beq id' id then Q .normal σ h else Q (.exit id') σ h
  | e => Q e σ h
def scopeK (Q : Exit → Env → Heap → Prop) : Exit → Env → Heap → Prop
  | .goto _, _, _ => False
  | e, σ, h => Q e σ h
def roundK (I : Nat → List (Nat × AV) → Heap → Prop) (k : Nat) (Q : Exit → Env → Heap → Prop) (e : Exit) (σ : Env) (h : Heap) : Prop := match e with
  | .normal => ∃ k' l' h'', I k' l' h'' ∧ k' < k ∧ Weak σ h l' h''
  | e => Q e σ h
def vcCond (c : Operand) (t e : VcT) (σ : Env) (h : Heap) (Q : Exit → Env → Heap → Prop) : Prop := match ev σ c with
  | .d (.bool b) => (b = true → t σ h Q) ∧ (b = false → e σ h Q)
  | .val (.bool b) => match b with
    | true => t σ h Q
    | false => e σ h Q
  | _ => False
def vcLoop (c : VcT) (σ : Env) (h : Heap) (Q : Exit → Env → Heap → Prop) : Prop :=
  ∃ I : Nat → List (Nat × AV) → Heap → Prop, (∃ k l h', I k l h' ∧ Weak σ h l h') ∧ ∀ k l h1, I k l h1 → c (Env.of l) h1 (roundK I k Q)
/-! ### a range over a function, whose rounds leave the objects as they are -/
def Env.puts (n : Nat) : List Nat → List AV → Env → Env
  | p :: ps, v :: vs, σ => Env.puts n ps vs (σ.putO n (some p) v)
  | _, _, σ => σ
/-- every name below k is that of cells -/
def cellsB (l : List (Nat × AO)) : Nat → Bool
  | 0 => true
  | k + 1 => (match look l k with | some (.cells _ _) => true | _ => false) && cellsB l k
/-- what is handed to a round: values alone; a slice is known by its length -/
def thinC : List AV → List AV → Prop
  | [], y => y = []
  | .d (.list rows) :: as, y => ∃ A c ys, y = .d (.raw (.slice A rows.length c)) :: ys ∧ thinC as ys
  | .d x :: as, y => ∃ ys, y = .d x :: ys ∧ thinC as ys
  | .nils :: as, y => ∃ ys, y = .nils :: ys ∧ thinC as ys
  | .val v :: as, y => ∃ ys, y = .val v :: ys ∧ thinC as ys
  | _ :: as, y => ∃ ys, y = .any :: ys ∧ thinC as ys
def thinL : List AV → List AV → Prop
  | [], y => y = []
  | .agg cs :: as, y => ∃ cs' ys, y = .agg cs' :: ys ∧ thinC cs cs' ∧ thinL as ys
  | a :: as, y => ∃ y0 ys, y = y0 ++ ys ∧ thinC [a] y0 ∧ thinL as ys
/-- weaker knowledge, where what points at an object that is let go reads as data that nobody writes -/
def leV (h : Heap) (nx : Nat) (x : AV) : AV → Prop
  | .d (.bool b) => norm x = .d (.bool b)
  | .at_ ds => x = .at_ ds ∨ ∃ id off t cs, x = .ptr id off ∧ nx ≤ id ∧ look h.objs id = some (.cells t cs) ∧ dsOf (cs.drop off) = some ds ∧ (match ds with | [] => false | _ => true) = true
  | v => x = v
def leA (h : Heap) (nx : Nat) : List (Nat × AV) → Env → Prop
  | [], _ => True
  | (k, v) :: l, σ => leV h nx (σ k) v ∧ leA h nx l σ
def WeakA (σ : Env) (h : Heap) (l : List (Nat × AV)) (h' : Heap) : Prop :=
  (Nat.ble h'.nx h.nx && Nat.beq h'.lo h.lo && Nat.ble h'.lo h'.nx) = true ∧ ltE h'.nx l = true ∧ leA h h'.nx l σ ∧ ltO h'.nx h'.objs ∧ leO h'.objs h.objs
def rangeK (Gd : Prop) (h0 : Heap) (Q : Exit → Env → Heap → Prop) (σn : Env) : Exit → Env → Heap → Prop
  | .normal, σ, h => Gd ∧ Weak σ h [] ⟨h0.objs, h0.nx, h0.nx⟩
  | .ret, _, h => (cellsB h.objs h.nx && Nat.ble h0.lo h.nx) = true ∧ Q .ret σn ⟨h.objs, h.nx, h0.lo⟩
  | .exit id, _, h => (cellsB h.objs h.nx && Nat.ble h0.lo h.nx) = true ∧ Q (.exit id) σn ⟨h.objs, h.nx, h0.lo⟩
  | _, _, _ => False
def assignK (h0 : Heap) (body : VcT) (R : Exit → Env → Heap → Prop) : Exit → Env → Heap → Prop
  | .normal, σ, h => ∃ l, WeakA σ h l ⟨h0.objs, h0.nx, h0.nx⟩ ∧ body (Env.of l) ⟨h0.objs, h0.nx, h0.nx⟩ R
  | _, _, _ => False
def vcRange (S : Specs) (n : Nat) (g : Operand) (ps : Array Nat) (assign body : VcT) (σ : Env) (h : Heap) (Q : Exit → Env → Heap → Prop) : Prop := match ev σ g with
  | .fn f caps => cellsB h.objs h.nx = true ∧ ∃ (xs : List (List AV → Prop)) (Gd : Nat → Prop), S.iter f caps h xs ∧ (∀ X ∈ xs, ∀ x, X x → x.length = ps.size) ∧
      (∀ i X, xs[i]? = some X → ∀ x, X x → assign (Env.puts n ps.toList x (Env.ren .drop σ)) ⟨h.objs, h.nx, h.nx⟩ (assignK h body (rangeK (Gd i) h Q (Env.ren .drop σ)))) ∧
      ((∀ i, i < xs.length → Gd i) → Q .normal (Env.ren .drop σ) h)
  | _ => False

/-- an operation that turns the heap and that may stand last in a region that draws its order -/
def heavyOp : Op → Bool
  | .store _ _ _ | .mapUpdate _ _ _ _ | .entryStore _ _ _ _ => true
  | _ => false
noncomputable def splitLast (l : List Oper) : Option (List Oper × Oper) :=
  List.rec (motive := fun _ => Option (List Oper × Oper)) none (fun o _ ih => match ih with | none => some ([], o) | some (i, z) => some (o :: i, z)) l
def coversB (l : List Edge) : Nat → Bool
  | 0 => true
  | k + 1 => l.any (fun e => Region.binds .any e && Nat.beq e.on k) && coversB l k
noncomputable def vcRegion (T : List (Nat × TI)) (S : Specs) (n : Nat) (ops : Array Oper) (draw : Bool) (σ : Env) (h : Heap) (Q : Exit → Env → Heap → Prop) : Prop := match draw with
  | false => vcOps T S n ops ops.toList σ h (Q .normal)
  | true => Region.lexB .any ops = true ∧ match splitLast ops.toList with
    | some (i, z) => match heavyOp z.op with
      | true => (coversB z.after.toList i.length && z.guard.isNone) = true ∧ vcPure T S n ops i [] σ h (fun σ' => vcOps T S n ops [z] σ' h (Q .normal))
      | false => vcPure T S n ops ops.toList [] σ h (fun σ' => Q .normal σ' h)
    | none => vcPure T S n ops ops.toList [] σ h (fun σ' => Q .normal σ' h)
/-- 'rd': within a round of a range over a function -/
noncomputable def vcB (T : List (Nat × TI)) (S : Specs) (n : Nat) (c : Code) : Bool → VcT :=
  Code.rec (motive := fun _ => Bool → VcT) (skip := fun _ σ h Q => Q .normal σ h) (region := fun _ ops draw _ => vcRegion T S n ops draw)
    (seq := fun _ _ iha ihb rd σ h Q => iha rd σ h (thenK (ihb rd) Q)) (cond := fun c _ _ t e rd => vcCond c (t rd) (e rd))
    (block := fun id _ ih rd σ h Q => ih rd σ h (blockK id Q)) (loop := fun _ ih rd => vcLoop (ih rd))
    (rangeFunc := fun g ps _ _ iha ihb rd => match rd with | false => vcRange S n g ps (iha true) (ihb true) | true => fun _ _ _ => False)
    (exit := fun id _ σ h Q => Q (.exit id) σ h) (scope := fun _ ih rd σ h Q => ih rd σ h (scopeK Q)) (label := fun _ _ σ h Q => Q .normal σ h) (goto := fun _ _ _ _ _ => False)
    (ret := fun _ σ h Q => Q .ret σ h) (refuse := fun _ _ _ _ _ => False) c
noncomputable abbrev vc (T : List (Nat × TI)) (S : Specs) (n : Nat) (c : Code) : VcT := vcB T S n c false
end Go.Vc
end

section
namespace Go.Vc

/-- a text, as the model holds it -/
def mkS (s : Bs) : ByteArray := ⟨s.toArray⟩

def Placed (w : World) (N : Nat → Prop) (A : Option Addr) (cells : List Value) : Prop :=
  cells = [] ∨ ∃ b o, A = some ⟨b, o, none⟩ ∧ ¬ N b ∧ ∀ (j : Nat) (v : Value), cells[j]? = some v → w.cell? ⟨b, o + j, none⟩ = some v

/-- the cells 'cs' read as the data 'ds'; no block of N is looked at -/
inductive Rd (w : World) (N : Nat → Prop) : List D → List Value → Prop
  | nil : Rd w N [] []
  | int {ds cs} (k : IntKind) (n : Int) : Rd w N ds cs → Rd w N (.int k n :: ds) (.int k n :: cs)
  | bool {ds cs} (b : Bool) : Rd w N ds cs → Rd w N (.bool b :: ds) (.bool b :: cs)
  | str {ds cs} (s : Bs) : s.length ≤ big → Rd w N ds cs → Rd w N (.str s :: ds) (.string (mkS s) :: cs)
  | fn {ds cs} (f : FuncId) : Rd w N ds cs → Rd w N (.fn f :: ds) (.func (.func f) #[] #[] :: cs)
  | raw {ds cs} (v : Value) : v.oneCell' = true → Rd w N ds cs → Rd w N (.raw v :: ds) (v :: cs)
  | list {ds cs} (rows : List (List D)) (A : Option Addr) (cap sz : Nat) (cells : List Value) : Rd w N rows.flatten cells → (∀ r ∈ rows, r.length = sz) → Placed w N A cells →
      rows.length ≤ cap → rows.length ≤ big → Rd w N ds cs → Rd w N (.list rows :: ds) (.slice A rows.length cap :: cs)

theorem Rd.length {w : World} {N : Nat → Prop} {ds : List D} {cs : List Value} (h : Rd w N ds cs) : cs.length = ds.length := by
  induction h <;> simp_all
theorem Rd.one {w : World} {N : Nat → Prop} {ds : List D} {cs : List Value} (h : Rd w N ds cs) : ∀ v ∈ cs, v.oneCell' = true := by
  induction h <;> simp_all [Value.oneCell']

theorem Rd.append {w : World} {N : Nat → Prop} {ds es : List D} {cs fs : List Value} (h : Rd w N ds cs) (k : Rd w N es fs) : Rd w N (ds ++ es) (cs ++ fs) := by
  induction h with
  | nil => exact k
  | int a b _ ih => exact .int a b ih
  | bool b _ ih => exact .bool b ih
  | str s hs _ ih => exact .str s hs ih
  | fn f _ ih => exact .fn f ih
  | raw v hv _ ih => exact .raw v hv ih
  | list rows A cap sz cells h1 h2 h3 h4 h5 _ _ ih => exact .list rows A cap sz cells h1 h2 h3 h4 h5 ih

theorem Rd.split {w : World} {N : Nat → Prop} : ∀ {ds es : List D} {cs : List Value}, Rd w N (ds ++ es) cs → ∃ c1 c2, cs = c1 ++ c2 ∧ Rd w N ds c1 ∧ Rd w N es c2
  | [], _, cs, h => ⟨[], cs, rfl, .nil, h⟩
  | d :: ds, es, _, h => by
    cases h with
    | int k n h => obtain ⟨c1, c2, rfl, h1, h2⟩ := Rd.split h; exact ⟨_ :: c1, c2, rfl, .int k n h1, h2⟩
    | bool b h => obtain ⟨c1, c2, rfl, h1, h2⟩ := Rd.split h; exact ⟨_ :: c1, c2, rfl, .bool b h1, h2⟩
    | str s hs h => obtain ⟨c1, c2, rfl, h1, h2⟩ := Rd.split h; exact ⟨_ :: c1, c2, rfl, .str s hs h1, h2⟩
    | fn f h => obtain ⟨c1, c2, rfl, h1, h2⟩ := Rd.split h; exact ⟨_ :: c1, c2, rfl, .fn f h1, h2⟩
    | raw v hv h => obtain ⟨c1, c2, rfl, h1, h2⟩ := Rd.split h; exact ⟨_ :: c1, c2, rfl, .raw v hv h1, h2⟩
    | list rows A cap sz cells h1 h2 h3 h4 h5 h => obtain ⟨c1, c2, rfl, k1, k2⟩ := Rd.split h; exact ⟨_ :: c1, c2, rfl, .list rows A cap sz cells h1 h2 h3 h4 h5 k1, k2⟩

theorem Rd.drop {w : World} {N : Nat → Prop} {ds : List D} {cs : List Value} (h : Rd w N ds cs) (k : Nat) : Rd w N (ds.drop k) (cs.drop k) := by
  have h' := h
  have g : Rd w N (ds.take k ++ ds.drop k) cs := by rw [List.take_append_drop]; exact h
  obtain ⟨c1, c2, rfl, h1, h2⟩ := Rd.split g
  by_cases hk : k ≤ ds.length
  · have := h1.length
    rw [List.length_take, Nat.min_eq_left hk] at this
    have e : (c1 ++ c2).drop k = c2 := by rw [← this]; exact List.drop_left
    rw [e]
    exact h2
  · have := h'.length
    rw [List.drop_of_length_le (l := ds) (by omega), List.drop_of_length_le (l := c1 ++ c2) (by omega)]
    exact .nil
theorem Rd.take {w : World} {N : Nat → Prop} {ds : List D} {cs : List Value} (h : Rd w N ds cs) (k : Nat) : Rd w N (ds.take k) (cs.take k) := by
  have h' := h
  have g : Rd w N (ds.take k ++ ds.drop k) cs := by rw [List.take_append_drop]; exact h
  obtain ⟨c1, c2, rfl, h1, h2⟩ := Rd.split g
  by_cases hk : k ≤ ds.length
  · have := h1.length
    rw [List.length_take, Nat.min_eq_left hk] at this
    have e : (c1 ++ c2).take k = c1 := by rw [← this]; exact List.take_left
    rw [e]
    exact h1
  · have := h'.length
    rw [List.take_of_length_le (l := ds) (by omega), List.take_of_length_le (l := c1 ++ c2) (by omega)]
    exact h'

theorem nbF {a b : Nat} (h : a ≠ b) : Nat.beq a b = false := by
  cases e : Nat.beq a b with
  | false => rfl
  | true => exact absurd (Nat.eq_of_beq_eq_true e) h
theorem nbT (a : Nat) : Nat.beq a a = true := Nat.beq_refl a
theorem cell?_lt {w : World} {a : Addr} {v : Value} (h : w.cell? a = some v) : a.block < w.heap.size := by
  unfold World.cell? at h
  rcases Nat.lt_or_ge a.block w.heap.size with g | g
  · exact g
  · rw [Array.getElem?_eq_none g] at h
    cases h

/-- the world goes on: what is not in N stands, and is not in N' either -/
structure Mv (w : World) (N : Nat → Prop) (w' : World) (N' : Nat → Prop) : Prop where
  size : w.heap.size ≤ w'.heap.size
  blk : ∀ b, b < w.heap.size → ¬ N b → ¬ N' b ∧ w'.heap[b]? = w.heap[b]?

theorem Mv.refl (w : World) (N : Nat → Prop) : Mv w N w N := ⟨Nat.le_refl _, fun _ _ h => ⟨h, rfl⟩⟩

theorem Placed.mv {w w' : World} {N N' : Nat → Prop} (m : Mv w N w' N') {A : Option Addr} {cells : List Value} (h : Placed w N A cells) : Placed w' N' A cells := by
  rcases h with h | ⟨b, o, rfl, hb, hc⟩
  · exact .inl h
  · cases cells with
    | nil => exact .inl rfl
    | cons c cs =>
      have h0 := cell?_lt (hc 0 c rfl)
      obtain ⟨g1, g2⟩ := m.blk b h0 hb
      refine .inr ⟨b, o, rfl, g1, fun j v hv => ?_⟩
      rw [World.cell?_of_block (w := w) (a := ⟨b, o + j, none⟩) g2]
      exact hc j v hv
theorem Rd.mv {w w' : World} {N N' : Nat → Prop} (m : Mv w N w' N') {ds : List D} {cs : List Value} (h : Rd w N ds cs) : Rd w' N' ds cs := by
  induction h with
  | nil => exact .nil
  | int a b _ ih => exact .int a b ih
  | bool b _ ih => exact .bool b ih
  | str s hs _ ih => exact .str s hs ih
  | fn f _ ih => exact .fn f ih
  | raw v hv _ ih => exact .raw v hv ih
  | list rows A cap sz cells _ h2 h3 h4 h5 _ ih1 ih2 => exact .list rows A cap sz cells ih1 h2 (h3.mv m) h4 h5 ih2

/-- the values 'vs' are as 'as' says; ν: what the names of the own blocks stand for -/
inductive Rv (w : World) (N : Nat → Prop) (ν : Nat → Value) : List AV → List Value → Prop
  | nil : Rv w N ν [] []
  | any {as vs} (v : Value) : Rv w N ν as vs → Rv w N ν (.any :: as) (v :: vs)
  | d {as vs x v} : Rd w N [x] [v] → Rv w N ν as vs → Rv w N ν (.d x :: as) (v :: vs)
  | nils {as vs} : Rv w N ν as vs → Rv w N ν (.nils :: as) (.slice none 0 0 :: vs)
  | val {as vs} (v : Value) : Rv w N ν as vs → Rv w N ν (.val v :: as) (v :: vs)
  | agg {as vs cs} (xs : List Value) : Rv w N ν cs xs → Rv w N ν as vs → Rv w N ν (.agg cs :: as) (.agg xs.toArray :: vs)
  | tup {as vs cs} (xs : List Value) : Rv w N ν cs xs → Rv w N ν as vs → Rv w N ν (.tup cs :: as) (.tuple xs.toArray :: vs)
  | ptr {as vs id b} (off : Nat) : ν id = .pointer (some ⟨b, 0, none⟩) → Rv w N ν as vs → Rv w N ν (.ptr id off :: as) (.pointer (some ⟨b, off, none⟩) :: vs)
  | at_ {as vs ds} (A : Addr) (cells : List Value) : cells ≠ [] → Rd w N ds cells → Placed w N (some A) cells → Rv w N ν as vs → Rv w N ν (.at_ ds :: as) (.pointer (some A) :: vs)
  | rptr {as vs id b n c} (i off sz : Nat) : ν id = .slice (some ⟨b, 0, none⟩) n c → i < n → Rv w N ν as vs → Rv w N ν (.rptr id i sz off :: as) (.pointer (some ⟨b, i * sz + off, none⟩) :: vs)
  | own {as vs id A n c} : ν id = .slice A n c → Rv w N ν as vs → Rv w N ν (.own id :: as) (.slice A n c :: vs)
  | mapr {as vs id r} : ν id = .map (some r) → Rv w N ν as vs → Rv w N ν (.mapr id :: as) (.map (some r) :: vs)
  | fn {as vs cs} (f : FuncId) (xs : List Value) : Rv w N ν cs xs → Rv w N ν as vs → Rv w N ν (.fn f cs :: as) (.func (.func f) #[] xs.toArray :: vs)
  | bfn {as vs cs} (f : FuncId) (xs : List Value) : Rv w N ν cs xs → Rv w N ν as vs → Rv w N ν (.bfn f cs :: as) (.func (.func f) xs.toArray #[] :: vs)
  | iface {as vs x v} (t : TypeId) : Rv w N ν [x] [v] → Rv w N ν as vs → Rv w N ν (.iface t x :: as) (.iface t v :: vs)

section
variable {w w' : World} {N N' : Nat → Prop} {ν ν' ν0 : Nat → Value}
theorem Rv.length {as : List AV} {vs : List Value} (h : Rv w N ν as vs) : vs.length = as.length := by
  induction h <;> simp_all

theorem Rv.mv (m : Mv w N w' N') (hν : ∀ id, ν id ≠ undef → ν' id = ν id) {as : List AV} {vs : List Value} (h : Rv w N ν as vs) : Rv w' N' ν' as vs := by
  induction h with
  | nil => exact .nil
  | any v _ ih => exact .any v ih
  | d h _ ih => exact .d (h.mv m) ih
  | nils _ ih => exact .nils ih
  | val v _ ih => exact .val v ih
  | agg xs _ _ ih1 ih2 => exact .agg xs ih1 ih2
  | tup xs _ _ ih1 ih2 => exact .tup xs ih1 ih2
  | ptr off h _ ih => exact .ptr off (by rw [hν _ (by rw [h]; simp [undef]), h]) ih
  | at_ A cells h0 h1 h2 _ ih => exact .at_ A cells h0 (h1.mv m) (h2.mv m) ih
  | rptr i off sz h hi _ ih => exact .rptr i off sz (by rw [hν _ (by rw [h]; simp [undef]), h]) hi ih
  | own h _ ih => exact .own (by rw [hν _ (by rw [h]; simp [undef]), h]) ih
  | mapr h _ ih => exact .mapr (by rw [hν _ (by rw [h]; simp [undef]), h]) ih
  | fn f xs _ _ ih1 ih2 => exact .fn f xs ih1 ih2
  | bfn f xs _ _ ih1 ih2 => exact .bfn f xs ih1 ih2
  | iface t _ _ ih1 ih2 => exact .iface t ih1 ih2

theorem Rv.sub (m : Mv w N w' N') {i : Nat} {b : AV} (hν : ∀ id, id ≠ i → ν id ≠ undef → ν' id = ν id) (hb : ∀ A n c, ν i = .slice A n c → Rv w' N' ν' [b] [.slice A n c]) :
    ∀ {as : List AV} {vs : List Value}, Rv w N ν as vs → Rv w' N' ν' (AV.subL i b as) vs := by
  intro as vs h
  induction h with
  | nil => simp only [AV.subL]; exact .nil
  | any v _ ih => simp only [AV.subL, AV.sub]; exact .any v ih
  | d h _ ih => simp only [AV.subL, AV.sub]; exact .d (h.mv m) ih
  | nils _ ih => simp only [AV.subL, AV.sub]; exact .nils ih
  | val v _ ih => simp only [AV.subL, AV.sub]; exact .val v ih
  | agg xs _ _ ih1 ih2 => simp only [AV.subL, AV.sub]; exact .agg xs ih1 ih2
  | tup xs _ _ ih1 ih2 => simp only [AV.subL, AV.sub]; exact .tup xs ih1 ih2
  | @ptr as vs id b' off h _ ih =>
    simp only [AV.subL, AV.sub]
    by_cases e : id = i
    · rw [show Nat.beq id i = true from by simpa using e]; exact .any _ ih
    · rw [show Nat.beq id i = false from nbF e]; exact .ptr off (by rw [hν _ e (by rw [h]; simp [undef]), h]) ih
  | at_ A cells h0 h1 h2 _ ih => simp only [AV.subL, AV.sub]; exact .at_ A cells h0 (h1.mv m) (h2.mv m) ih
  | @rptr as vs id b' n c i' off sz h hi _ ih =>
    simp only [AV.subL, AV.sub]
    by_cases e : id = i
    · rw [show Nat.beq id i = true from by simpa using e]; exact .any _ ih
    · rw [show Nat.beq id i = false from nbF e]; exact .rptr i' off sz (by rw [hν _ e (by rw [h]; simp [undef]), h]) hi ih
  | @own as vs id A n c h _ ih =>
    simp only [AV.subL, AV.sub]
    by_cases e : id = i
    · rw [show Nat.beq id i = true from by simpa using e]
      subst e
      have := hb A n c h
      cases hb A n c h with
      | any => exact .any _ ih
      | d h1 => exact .d h1 ih
      | nils => exact .nils ih
      | val => exact .val _ ih
      | own h1 => exact .own h1 ih
    · rw [show Nat.beq id i = false from nbF e]; exact .own (by rw [hν _ e (by rw [h]; simp [undef]), h]) ih
  | @mapr as vs id r h _ ih =>
    simp only [AV.subL, AV.sub]
    by_cases e : id = i
    · rw [show Nat.beq id i = true from by simpa using e]; exact .any _ ih
    · rw [show Nat.beq id i = false from nbF e]; exact .mapr (by rw [hν _ e (by rw [h]; simp [undef]), h]) ih
  | fn f xs _ _ ih1 ih2 => simp only [AV.subL, AV.sub]; exact .fn f xs ih1 ih2
  | bfn f xs _ _ ih1 ih2 => simp only [AV.subL, AV.sub]; exact .bfn f xs ih1 ih2
  | iface t _ _ ih1 ih2 =>
    simp only [AV.subL, AV.sub] at ih1 ⊢
    exact .iface t ih1 ih2

theorem Rv.cons_inv {a : AV} {as : List AV} {vs : List Value} (h : Rv w N ν (a :: as) vs) : ∃ v r, vs = v :: r ∧ Rv w N ν [a] [v] ∧ Rv w N ν as r := by
  cases h with
  | any v h => exact ⟨_, _, rfl, .any v .nil, h⟩
  | d h1 h => exact ⟨_, _, rfl, .d h1 .nil, h⟩
  | nils h => exact ⟨_, _, rfl, .nils .nil, h⟩
  | val v h => exact ⟨_, _, rfl, .val v .nil, h⟩
  | agg xs h1 h => exact ⟨_, _, rfl, .agg xs h1 .nil, h⟩
  | tup xs h1 h => exact ⟨_, _, rfl, .tup xs h1 .nil, h⟩
  | ptr off h1 h => exact ⟨_, _, rfl, .ptr off h1 .nil, h⟩
  | at_ A cells h0 h1 h2 h => exact ⟨_, _, rfl, .at_ A cells h0 h1 h2 .nil, h⟩
  | rptr i off sz h1 h2 h => exact ⟨_, _, rfl, .rptr i off sz h1 h2 .nil, h⟩
  | own h1 h => exact ⟨_, _, rfl, .own h1 .nil, h⟩
  | mapr h1 h => exact ⟨_, _, rfl, .mapr h1 .nil, h⟩
  | fn f xs h1 h => exact ⟨_, _, rfl, .fn f xs h1 .nil, h⟩
  | bfn f xs h1 h => exact ⟨_, _, rfl, .bfn f xs h1 .nil, h⟩
  | iface t h1 h => exact ⟨_, _, rfl, .iface t h1 .nil, h⟩
theorem Rv.cons {a : AV} {v : Value} (h : Rv w N ν [a] [v]) {as : List AV} {vs : List Value} (k : Rv w N ν as vs) : Rv w N ν (a :: as) (v :: vs) := by
  cases h with
  | any v h => exact .any v k
  | d h1 h => exact .d h1 k
  | nils h => exact .nils k
  | val v h => exact .val v k
  | agg xs h1 h => exact .agg xs h1 k
  | tup xs h1 h => exact .tup xs h1 k
  | ptr off h1 h => exact .ptr off h1 k
  | at_ A cells h0 h1 h2 h => exact .at_ A cells h0 h1 h2 k
  | rptr i off sz h1 h2 h => exact .rptr i off sz h1 h2 k
  | own h1 h => exact .own h1 k
  | mapr h1 h => exact .mapr h1 k
  | fn f xs h1 h => exact .fn f xs h1 k
  | bfn f xs h1 h => exact .bfn f xs h1 k
  | iface t h1 h => exact .iface t h1 k
theorem Rv.append {as bs : List AV} {vs us : List Value} (h : Rv w N ν as vs) (k : Rv w N ν bs us) : Rv w N ν (as ++ bs) (vs ++ us) := by
  induction as generalizing vs with
  | nil => cases h; exact k
  | cons a as ih =>
    obtain ⟨v, r, rfl, h1, h2⟩ := h.cons_inv
    exact h1.cons (ih h2)
theorem Rv.split {as bs : List AV} {vs : List Value} (h : Rv w N ν (as ++ bs) vs) : ∃ c1 c2, vs = c1 ++ c2 ∧ Rv w N ν as c1 ∧ Rv w N ν bs c2 := by
  induction as generalizing vs with
  | nil => exact ⟨[], vs, rfl, .nil, h⟩
  | cons a as ih =>
    obtain ⟨v, r, rfl, h1, h2⟩ := h.cons_inv
    obtain ⟨c1, c2, rfl, h3, h4⟩ := ih h2
    exact ⟨v :: c1, c2, rfl, h1.cons h3, h4⟩
theorem Rv.drop {as : List AV} {vs : List Value} (h : Rv w N ν as vs) (k : Nat) : Rv w N ν (as.drop k) (vs.drop k) := by
  induction k generalizing as vs with
  | zero => exact h
  | succ k ih =>
    cases as with
    | nil => cases h; exact .nil
    | cons a as => obtain ⟨v, r, rfl, _, h2⟩ := h.cons_inv; exact ih h2
theorem Rv.take {as : List AV} {vs : List Value} (h : Rv w N ν as vs) (k : Nat) : Rv w N ν (as.take k) (vs.take k) := by
  induction k generalizing as vs with
  | zero => exact .nil
  | succ k ih =>
    cases as with
    | nil => cases h; exact .nil
    | cons a as => obtain ⟨v, r, rfl, h1, h2⟩ := h.cons_inv; exact h1.cons (ih h2)
theorem Rv.get {as : List AV} {vs : List Value} (h : Rv w N ν as vs) {k : Nat} {a : AV} (hk : as[k]? = some a) : ∃ v, vs[k]? = some v ∧ Rv w N ν [a] [v] := by
  induction k generalizing as vs with
  | zero =>
    cases as with
    | nil => cases hk
    | cons x as => obtain ⟨v, r, rfl, h1, _⟩ := h.cons_inv; simp at hk; subst hk; exact ⟨v, rfl, h1⟩
  | succ k ih =>
    cases as with
    | nil => cases hk
    | cons x as => obtain ⟨v, r, rfl, _, h2⟩ := h.cons_inv; exact ih h2 (by simpa using hk)
theorem Rv.ofRd {ds : List D} {cs : List Value} (h : Rd w N ds cs) : Rv w N ν (ds.map .d) cs := by
  induction h with
  | nil => exact .nil
  | int a b _ ih => exact .d (.int a b .nil) ih
  | bool b _ ih => exact .d (.bool b .nil) ih
  | str s hs _ ih => exact .d (.str s hs .nil) ih
  | fn f _ ih => exact .d (.fn f .nil) ih
  | raw v hv _ ih => exact .d (.raw v hv .nil) ih
  | list rows A cap sz cells h1 h2 h3 h4 h5 _ _ ih => exact .d (.list rows A cap sz cells h1 h2 h3 h4 h5 .nil) ih
theorem Rv.dsOf {as : List AV} {vs : List Value} {ds : List D} (h : Rv w N ν as vs) (hd : dsOf as = some ds) : Rd w N ds vs := by
  induction as generalizing vs ds with
  | nil => cases h; simp [Vc.dsOf] at hd; subst hd; exact .nil
  | cons a as ih =>
    obtain ⟨v, r, rfl, h1, h2⟩ := h.cons_inv
    unfold Vc.dsOf at hd
    split at hd
    · rename_i e; cases e
    · rename_i x r' e
      injection e with e1 e2
      subst e1 e2
      simp only [Option.map_eq_some_iff] at hd
      obtain ⟨ds', hd', rfl⟩ := hd
      cases h1 with
      | d h3 => exact h3.append (ih h2 hd')
    · rename_i r' e
      injection e with e1 e2
      subst e1 e2
      simp only [Option.map_eq_some_iff] at hd
      obtain ⟨ds', hd', rfl⟩ := hd
      cases h1 with
      | nils _ => exact .list [] none 0 0 [] .nil (by simp) (.inl rfl) (Nat.le_refl _) (Nat.zero_le _) (ih h2 hd')
    · rename_i f r' e
      injection e with e1 e2
      subst e1 e2
      simp only [Option.map_eq_some_iff] at hd
      obtain ⟨ds', hd', rfl⟩ := hd
      cases h1 with
      | fn _ xs h3 _ => cases h3; exact .fn f (ih h2 hd')
    · cases hd
theorem Rv.oneCell {a : AV} {v : Value} (h : Rv w N ν [a] [v]) (h1 : a.one = true) : v.oneCell' = true := by
  cases h with
  | d h _ => exact h.one _ (by simp)
  | _ => simp_all [AV.one, Value.oneCell']
theorem Rv.oneL {as : List AV} {vs : List Value} (h : Rv w N ν as vs) (h1 : oneL as = true) : ∀ v ∈ vs, v.oneCell' = true := by
  induction as generalizing vs with
  | nil => cases h; simp
  | cons a as ih =>
    obtain ⟨v, r, rfl, h2, h3⟩ := h.cons_inv
    simp [Vc.oneL] at h1
    intro u hu
    rcases List.mem_cons.1 hu with rfl | hu
    · exact h2.oneCell h1.1
    · exact ih h3 h1.2 u hu

/-- rows forgotten: only what is no slice need stay -/
theorem Rv.noOwn (m : Mv w N w' N') (hν : ∀ id, ν id ≠ undef → (∀ A k c, ν id ≠ .slice A k c) → ν' id = ν id) : ∀ {as : List AV} {vs : List Value}, Rv w N ν as vs → Rv w' N' ν' (AV.noOwnL as) vs := by
  intro as vs h
  induction h with
  | nil => simp only [AV.noOwnL]; exact .nil
  | any v _ ih => simp only [AV.noOwnL, AV.noOwn]; exact .any v ih
  | d h _ ih => simp only [AV.noOwnL, AV.noOwn]; exact .d (h.mv m) ih
  | nils _ ih => simp only [AV.noOwnL, AV.noOwn]; exact .nils ih
  | val v _ ih => simp only [AV.noOwnL, AV.noOwn]; exact .val v ih
  | agg xs _ _ ih1 ih2 => simp only [AV.noOwnL, AV.noOwn]; exact .agg xs ih1 ih2
  | tup xs _ _ ih1 ih2 => simp only [AV.noOwnL, AV.noOwn]; exact .tup xs ih1 ih2
  | ptr off h _ ih => simp only [AV.noOwnL, AV.noOwn]; exact .ptr off (by rw [hν _ (by rw [h]; simp [undef]) (by rw [h]; simp), h]) ih
  | at_ A cells h0 h1 h2 _ ih => simp only [AV.noOwnL, AV.noOwn]; exact .at_ A cells h0 (h1.mv m) (h2.mv m) ih
  | rptr i off sz h hi _ ih => simp only [AV.noOwnL, AV.noOwn]; exact .any _ ih
  | own h _ ih => simp only [AV.noOwnL, AV.noOwn]; exact .any _ ih
  | mapr h _ ih => simp only [AV.noOwnL, AV.noOwn]; exact .mapr (by rw [hν _ (by rw [h]; simp [undef]) (by rw [h]; simp), h]) ih
  | fn f xs _ _ ih1 ih2 => simp only [AV.noOwnL, AV.noOwn]; exact .fn f xs ih1 ih2
  | bfn f xs _ _ ih1 ih2 => simp only [AV.noOwnL, AV.noOwn]; exact .bfn f xs ih1 ih2
  | iface t _ _ ih1 ih2 => simp only [AV.noOwnL, AV.noOwn] at ih1 ⊢; exact .iface t ih1 ih2

/-! ### the entries of a map -/
def keyVal : List D → Option Value
  | [.int k n] => some (.int k n)
  | [.str s] => some (.string (mkS s))
  | [.bool b] => some (.bool b)
  | [.str a, .str b] => some (.agg #[.string (mkS a), .string (mkS b)])
  | _ => none
inductive Km (w : World) (N : Nat → Prop) (ν : Nat → Value) (tk : TK) : List (List D × AV) → List MapEntry → Prop
  | nil : Km w N ν tk [] []
  | cons {ks a es e l} : keyOk tk ks = true → keyVal ks = some e.key → Rv w N ν [a] [e.val] → Km w N ν tk es l → Km w N ν tk ((ks, a) :: es) (e :: l)
theorem Km.mv (m : Mv w N w' N') (hν : ∀ id, ν id ≠ undef → ν' id = ν id) {tk : TK} {es : List (List D × AV)} {l : List MapEntry} (h : Km w N ν tk es l) : Km w' N' ν' tk es l := by
  induction h with
  | nil => exact .nil
  | cons h1 h2 h3 _ ih => exact .cons h1 h2 (h3.mv m hν) ih
theorem Km.sub (m : Mv w N w' N') {i : Nat} {b : AV} (hν : ∀ id, id ≠ i → ν id ≠ undef → ν' id = ν id) (hb : ∀ A n c, ν i = .slice A n c → Rv w' N' ν' [b] [.slice A n c])
    {tk : TK} {es : List (List D × AV)} {l : List MapEntry} (h : Km w N ν tk es l) : Km w' N' ν' tk (subM i b es) l := by
  induction h with
  | nil => exact .nil
  | cons h1 h2 h3 _ ih =>
    have := h3.sub m hν hb
    simp only [AV.subL] at this
    exact .cons h1 h2 this ih
end
end Go.Vc
end

section
set_option linter.unusedVariables false
set_option linter.unusedSimpArgs false
namespace Go.Vc

def vblk : Value → Option Nat
  | .pointer (some a) => some a.block
  | .slice (some a) _ _ => some a.block
  | .map (some r) => some r
  | _ => none
def nN (N0 : Nat → Prop) (ν : Nat → Value) : Nat → Prop := fun b => N0 b ∨ ∃ id, vblk (ν id) = some b
def upd (ν : Nat → Value) (i : Nat) (v : Value) : Nat → Value := fun j => if j = i then v else ν j

/-- nothing was ever taken out of a map: the stamps are the places -/
def Born (arr : Array MapEntry) (clock : Nat) : Prop := clock = arr.size ∧ ∀ (j : Nat) (e : MapEntry), arr[j]? = some e → e.born = j
def Ro (w : World) (N : Nat → Prop) (ν : Nat → Value) (id : Nat) : AO → Prop
  | .cells _ cs => ∃ b arr e, ν id = .pointer (some ⟨b, 0, none⟩) ∧ w.heap[b]? = some (.cells arr e (0, 0)) ∧ Rv w N ν cs arr.toList
  | .row t sz rows => ∃ A c cells, ν id = .slice A rows.length c ∧ Rd w N rows.flatten cells ∧ (∀ r ∈ rows, r.length = sz) ∧ rows.length ≤ big ∧ 0 < sz ∧ w.ownsRow 0 t sz (ν id) rows.length cells
  | .map _ tk es => ∃ r arr clock, ν id = .map (some r) ∧ w.heap[r]? = some (.map arr clock) ∧ Km w N ν tk es arr.toList ∧ Born arr clock

/-- the package variables that are known stand, and nobody looks at their blocks as data -/
def LwOk (N0 : Nat → Prop) (w : World) : Prop := ∀ p ∈ LG, N0 p.1 ∧ w.cell? ⟨p.1, 0, none⟩ = some p.2
theorem LwOk.mv {N0 : Nat → Prop} {w w' : World} (h : LwOk N0 w) (hb : ∀ b, N0 b → b < w.heap.size → w'.heap[b]? = w.heap[b]?) : LwOk N0 w' := fun p hp => by
  obtain ⟨h1, h2⟩ := h p hp
  refine ⟨h1, ?_⟩
  rw [World.cell?_of_block (w := w) (a := ⟨p.1, 0, none⟩) (hb p.1 h1 (cell?_lt h2))]
  exact h2
structure Hp (N0 : Nat → Prop) (w : World) (ν : Nat → Value) (h : Heap) : Prop where
  objs : ∀ id o, look h.objs id = some o → Ro w (nN N0 ν) ν id o
  inj : ∀ i j b, vblk (ν i) = some b → vblk (ν j) = some b → i = j
  bnd : ∀ i b, vblk (ν i) = some b → b < w.heap.size
  dom : ∀ i, h.nx ≤ i → ν i = undef
  n0 : ∀ b, N0 b → b < w.heap.size
  dis : ∀ i b, vblk (ν i) = some b → ¬ N0 b
  lw : LwOk N0 w

/-- since w0 only blocks of Nf, and new ones, have turned -/
structure Kp (Nf : Nat → Prop) (w0 w : World) : Prop where
  os : w.os = w0.os
  tape : w.tape = w0.tape
  output : w.output = w0.output
  size : w0.heap.size ≤ w.heap.size
  blk : ∀ b, b < w0.heap.size → ¬ Nf b → w.heap[b]? = w0.heap[b]?
theorem Kp.refl (Nf : Nat → Prop) (w : World) : Kp Nf w w := ⟨rfl, rfl, rfl, Nat.le_refl _, fun _ _ _ => rfl⟩
theorem Kp.trans {Nf Ng : Nat → Prop} {a b c : World} (h : Kp Nf a b) (k : Kp Ng b c) (hN : ∀ x, x < a.heap.size → Ng x → Nf x) : Kp Nf a c :=
  ⟨k.os.trans h.os, k.tape.trans h.tape, k.output.trans h.output, Nat.le_trans h.size k.size, fun x hx hn => (k.blk x (Nat.lt_of_lt_of_le hx h.size) (fun g => hn (hN x hx g))).trans (h.blk x hx hn)⟩

/-- the mark that a range over a function leaves among the deferred calls -/
def mkD (D : Nat) : Deferred := { target := .collected D, args := #[] }
/-- the deferred calls are marks alone: blocks of nobody's, still open -/
def Dfr (q : Bool) (w0 w : World) (ν : Nat → Value) (ds : List Deferred) : Prop := (q = true → ds = []) ∧
  ∃ Ds : List Nat, ds = Ds.map mkD ∧ Ds.Nodup ∧ ∀ D ∈ Ds, w0.heap.size ≤ D ∧ w.heap[D]? = some (.deferred (some [])) ∧ ∀ i, vblk (ν i) ≠ some D
theorem Dfr.mv {q : Bool} {w0 w w' : World} {ν ν' : Nat → Value} {ds : List Deferred} (h : Dfr q w0 w ν ds) (hb : ∀ b, b < w.heap.size → (∀ i, vblk (ν i) ≠ some b) → w'.heap[b]? = w.heap[b]?)
    (hν : ∀ i b, vblk (ν' i) = some b → (∃ j, vblk (ν j) = some b) ∨ w.heap.size ≤ b) : Dfr q w0 w' ν' ds := by
  obtain ⟨h0, Ds, h1, h2, h3⟩ := h
  refine ⟨h0, Ds, h1, h2, fun D hD => ?_⟩
  obtain ⟨g1, g2, g3⟩ := h3 D hD
  have hlt : D < w.heap.size := (Array.getElem?_eq_some_iff.1 g2).1
  refine ⟨g1, by rw [hb D hlt g3]; exact g2, fun i e => ?_⟩
  rcases hν i D e with ⟨j, g⟩ | g
  · exact g3 j g
  · omega
theorem Dfr.nil (q : Bool) (w0 w : World) (ν : Nat → Value) : Dfr q w0 w ν [] := ⟨fun _ => rfl, [], rfl, List.nodup_nil, fun _ h => by cases h⟩

structure St (q : Bool) (N0 : Nat → Prop) (w0 : World) (Nf : Nat → Prop) (n : Nat) (ν0 : Nat → Value) (σ : Env) (h : Heap) (a : Act) (w : World) (ν : Nat → Value) : Prop where
  slots : ∀ k, Rv w (nN N0 ν) ν [σ k] [a.tmps.getD k undef]
  hp : Hp N0 w ν h
  kp : Kp Nf w0 w
  fresh : ∀ i b, vblk (ν i) = some b → w0.heap.size ≤ b ∨ Nf b
  size : a.tmps.size = n
  defers : Dfr q w0 w ν a.defers
  keep : ∀ i, ν0 i ≠ undef → (∀ A m c, ν0 i ≠ .slice A m c) → ν i = ν0 i
  low : h.lo ≤ h.nx ∧ ∀ i, h.lo ≤ i → ν0 i = undef

section
variable {q : Bool} {N0 Nf : Nat → Prop} {w0 w w' : World} {n : Nat} {σ : Env} {h : Heap} {a : Act} {ν ν' ν0 : Nat → Value}

theorem getD_put (a : Act) (d : Option Nat) (v : Value) (k : Nat) : (a.put d v).tmps.getD k undef = match d with
    | none => a.tmps.getD k undef
    | some d => if k = d ∧ d < a.tmps.size then v else a.tmps.getD k undef := by
  cases d with
  | none => rfl
  | some d =>
    simp only [Act.put, Array.getD_eq_getD_getElem?, Array.getElem?_setIfInBounds]
    by_cases h1 : d = k
    · subst h1
      by_cases h2 : d < a.tmps.size
      · simp [h2]
      · simp [h2]
    · rw [if_neg h1, if_neg (fun h => h1 h.1.symm)]
theorem size_put (a : Act) (d : Option Nat) (v : Value) : (a.put d v).tmps.size = a.tmps.size := by
  cases d <;> simp [Act.put]
theorem defers_put (a : Act) (d : Option Nat) (v : Value) : (a.put d v).defers = a.defers := by
  cases d <;> simp [Act.put]

/-- the slots behind an operation -/
theorem slots_put {w : World} {N : Nat → Prop} (hs : ∀ k, Rv w N ν [σ k] [a.tmps.getD k undef]) (hn : a.tmps.size = n) (d : Option Nat) {r : AV} {v : Value} (hr : Rv w N ν [r] [v]) :
    ∀ k, Rv w N ν [(σ.putO n d r) k] [(a.put d v).tmps.getD k undef] := by
  intro k
  rw [getD_put]
  cases d with
  | none => exact hs k
  | some d =>
    simp only [Env.putO]
    by_cases h2 : d < a.tmps.size
    · rw [show Nat.ble (d + 1) n = true from by rw [Nat.ble_eq]; omega]
      simp only [cond_true, Env.put]
      by_cases h1 : k = d
      · subst h1; rw [nbT, if_pos ⟨rfl, h2⟩]; exact hr
      · rw [nbF h1, if_neg (fun h => h1 h.1)]; exact hs k
    · rw [show Nat.ble (d + 1) n = false from by cases e : Nat.ble (d + 1) n; rfl; rw [Nat.ble_eq] at e; omega]
      rw [if_neg (fun h => h2 h.2)]
      exact hs k

theorem Hp.mvN (hp : Hp N0 w ν h) (hsz : w.heap.size ≤ w'.heap.size) (tb : Nat → Prop) (hb : ∀ b, b < w.heap.size → ¬ tb b → w'.heap[b]? = w.heap[b]?) (htb : ∀ b, tb b → nN N0 ν b)
    (hnew : ∀ id b, vblk (ν' id) = some b → vblk (ν id) = some b ∨ w.heap.size ≤ b) : Mv w (nN N0 ν) w' (nN N0 ν') := by
  refine ⟨hsz, fun b hlt hN => ⟨?_, hb b hlt (fun g => hN (htb b g))⟩⟩
  rintro (g | ⟨id, g⟩)
  · exact hN (.inl g)
  · rcases hnew id b g with g | g
    · exact hN (.inr ⟨id, g⟩)
    · omega

theorem ownsRow_blk {w w' : World} {t sz k : Nat} {v : Value} {cells : List Value} (h : w.ownsRow 0 t sz v k cells) (hb : ∀ b, vblk v = some b → w'.heap[b]? = w.heap[b]?) : w'.ownsRow 0 t sz v k cells := by
  refine ⟨h.1, ?_⟩
  rcases h.2 with h | ⟨g, cap, cur, rfl, h1, h2, h3⟩
  · exact .inl h
  · exact .inr ⟨g, cap, cur, rfl, h1, by rw [hb g rfl]; exact h2, h3⟩

/-- an object whose own block stands -/
theorem Ro.keep {N N' : Nat → Prop} (m : Mv w N w' N') (hν : ∀ id, ν id ≠ undef → ν' id = ν id) {id : Nat} {o : AO} (hb : ∀ b, vblk (ν id) = some b → w'.heap[b]? = w.heap[b]?)
    (hr : Ro w N ν id o) : Ro w' N' ν' id o := by
  cases o with
  | cells t cs =>
    obtain ⟨b, arr, e, h1, h2, h3⟩ := hr
    refine ⟨b, arr, e, ?_, ?_, h3.mv m hν⟩
    · rw [hν id (by rw [h1]; simp [undef]), h1]
    · rw [hb b (by rw [h1]; rfl)]; exact h2
  | row t sz rows =>
    obtain ⟨A, c, cells, h1, h2, h3, h4, h5, h6⟩ := hr
    have e : ν' id = ν id := hν id (by rw [h1]; simp [undef])
    refine ⟨A, c, cells, by rw [e, h1], h2.mv m, h3, h4, h5, ?_⟩
    rw [e]
    exact ownsRow_blk h6 hb
  | map t tk es =>
    obtain ⟨r, arr, clock, h1, h2, h3, hB⟩ := hr
    exact ⟨r, arr, clock, by rw [hν id (by rw [h1]; simp [undef]), h1], by rw [hb r (by rw [h1]; rfl)]; exact h2, h3.mv m hν, hB⟩
theorem Ro.keepSub {N N' : Nat → Prop} (m : Mv w N w' N') {i : Nat} {by_ : AV} (hν : ∀ id, id ≠ i → ν id ≠ undef → ν' id = ν id) (hby : ∀ A n c, ν i = .slice A n c → Rv w' N' ν' [by_] [.slice A n c])
    {id : Nat} {o : AO} (hid : id ≠ i) (hb : ∀ b, vblk (ν id) = some b → w'.heap[b]? = w.heap[b]?) (hr : Ro w N ν id o) : Ro w' N' ν' id (o.sub i by_) := by
  cases o with
  | cells t cs =>
    obtain ⟨b, arr, e, h1, h2, h3⟩ := hr
    refine ⟨b, arr, e, ?_, ?_, h3.sub m hν hby⟩
    · rw [hν id hid (by rw [h1]; simp [undef]), h1]
    · rw [hb b (by rw [h1]; rfl)]; exact h2
  | row t sz rows =>
    obtain ⟨A, c, cells, h1, h2, h3, h4, h5, h6⟩ := hr
    have e : ν' id = ν id := hν id hid (by rw [h1]; simp [undef])
    refine ⟨A, c, cells, by rw [e, h1], h2.mv m, h3, h4, h5, ?_⟩
    rw [e]
    exact ownsRow_blk h6 hb
  | map t tk es =>
    obtain ⟨r, arr, clock, h1, h2, h3, hB⟩ := hr
    exact ⟨r, arr, clock, by rw [hν id hid (by rw [h1]; simp [undef]), h1], by rw [hb r (by rw [h1]; rfl)]; exact h2, h3.sub m hν hby, hB⟩

theorem look_setO (l : List (Nat × AO)) (i j : Nat) (x : AO) : look (setO i x l) j = if j = i then (look l i).map (fun _ => x) else look l j := by
  induction l with
  | nil => simp [setO, look]
  | cons p l ih =>
    obtain ⟨k, o⟩ := p
    by_cases hki : k = i
    · subst hki
      simp only [setO, nbT, cond_true, look]
      by_cases hj : j = k
      · subst hj; simp [nbT]
      · simp [nbF hj, hj]
    · simp only [setO, nbF hki, cond_false, look]
      by_cases hj : j = k
      · subst hj; simp [nbT, hki]
      · simp only [nbF hj, cond_false, ih]
        by_cases hji : j = i
        · subst hji; simp [nbF hj]
        · simp [hji]
theorem look_subO (l : List (Nat × AO)) (i j : Nat) (b : AV) : look (subO i b l) j = (look l j).map (AO.sub i b) := by
  induction l with
  | nil => rfl
  | cons p l ih =>
    obtain ⟨k, o⟩ := p
    simp only [subO, look]
    cases Nat.beq j k <;> simp [ih]
theorem look_del {α : Type} (l : List (Nat × α)) (i j : Nat) : look (del i l) j = if j = i then none else look l j := by
  induction l with
  | nil => simp [del, look]
  | cons p l ih =>
    obtain ⟨k, o⟩ := p
    simp only [del]
    by_cases hki : k = i
    · subst hki
      simp only [nbT, cond_true, ih, look]
      by_cases hj : j = k
      · simp [hj]
      · simp [hj, nbF hj]
    · simp only [nbF hki, cond_false, look]
      by_cases hj : j = k
      · subst hj; simp [nbT, hki]
      · simp only [nbF hj, cond_false, ih]

/-- A NEW OBJECT. -/
theorem Hp.new (hp : Hp N0 w ν h) (hsz : w.heap.size ≤ w'.heap.size) (hb : ∀ b, b < w.heap.size → w'.heap[b]? = w.heap[b]?) {val : Value} (hval : val ≠ undef)
    (hblk : ∀ b, vblk val = some b → w.heap.size ≤ b ∧ b < w'.heap.size) {o : AO}
    (hro : Mv w (nN N0 ν) w' (nN N0 (upd ν h.nx val)) → (∀ id, ν id ≠ undef → upd ν h.nx val id = ν id) → Ro w' (nN N0 (upd ν h.nx val)) (upd ν h.nx val) h.nx o) :
    Hp N0 w' (upd ν h.nx val) (h.new o) ∧ Mv w (nN N0 ν) w' (nN N0 (upd ν h.nx val)) ∧ ∀ id, ν id ≠ undef → upd ν h.nx val id = ν id := by
  have hν : ∀ id, ν id ≠ undef → upd ν h.nx val id = ν id := by
    intro id hid
    have : id ≠ h.nx := fun e => hid (by rw [e]; exact hp.dom _ (Nat.le_refl _))
    simp [upd, this]
  have hup : ∀ i b, vblk (upd ν h.nx val i) = some b → (i = h.nx ∧ vblk val = some b) ∨ (i ≠ h.nx ∧ vblk (ν i) = some b) := by
    intro i b g
    by_cases e : i = h.nx
    · exact .inl ⟨e, by simpa [upd, e] using g⟩
    · exact .inr ⟨e, by simpa [upd, e] using g⟩
  have m : Mv w (nN N0 ν) w' (nN N0 (upd ν h.nx val)) := hp.mvN hsz (fun _ => False) (fun b hlt _ => hb b hlt) (fun _ h => h.elim) (by
    intro id b g
    rcases hup id b g with ⟨_, g⟩ | ⟨_, g⟩
    · exact .inr (hblk b g).1
    · exact .inl g)
  refine ⟨⟨?_, ?_, ?_, ?_, fun b hb' => Nat.lt_of_lt_of_le (hp.n0 b hb') hsz, ?_, hp.lw.mv (fun b _ hlt => hb b hlt)⟩, m, hν⟩
  · intro id o' hl
    simp only [Heap.new, look] at hl
    by_cases e : id = h.nx
    · subst e
      rw [nbT] at hl
      simp only [cond_true, Option.some.injEq] at hl
      subst hl
      exact hro m hν
    · rw [nbF e] at hl
      exact Ro.keep m hν (fun b g => hb b (hp.bnd id b g)) (hp.objs id o' hl)
  · intro i j b gi gj
    rcases hup i b gi with ⟨e1, g1⟩ | ⟨e1, g1⟩ <;> rcases hup j b gj with ⟨e2, g2⟩ | ⟨e2, g2⟩
    · rw [e1, e2]
    · have := (hblk b g1).1; have := hp.bnd j b g2; omega
    · have := (hblk b g2).1; have := hp.bnd i b g1; omega
    · exact hp.inj i j b g1 g2
  · intro i b g
    rcases hup i b g with ⟨_, g⟩ | ⟨_, g⟩
    · exact (hblk b g).2
    · exact Nat.lt_of_lt_of_le (hp.bnd i b g) hsz
  · intro i hi
    simp only [Heap.new] at hi
    have : i ≠ h.nx := by omega
    simp only [upd, this, if_false]
    exact hp.dom i (by omega)
  · intro i b g hN
    rcases hup i b g with ⟨_, g⟩ | ⟨_, g⟩
    · have := (hblk b g).1; have := hp.n0 b hN; omega
    · exact hp.dis i b g hN

/-- a state behind a new object -/
theorem St.new (s : St q N0 w0 Nf n ν0 σ h a w ν) (hk : Kp (fun _ => False) w w') {val : Value} (hval : val ≠ undef)
    (hblk : ∀ b, vblk val = some b → w.heap.size ≤ b ∧ b < w'.heap.size) {o : AO}
    (hro : Mv w (nN N0 ν) w' (nN N0 (upd ν h.nx val)) → (∀ id, ν id ≠ undef → upd ν h.nx val id = ν id) → Ro w' (nN N0 (upd ν h.nx val)) (upd ν h.nx val) h.nx o)
    (d : Option Nat) {r : AV} {v : Value} (hr : Rv w' (nN N0 (upd ν h.nx val)) (upd ν h.nx val) [r] [v]) :
    St q N0 w0 Nf n ν0 (σ.putO n d r) (h.new o) (a.put d v) w' (upd ν h.nx val) := by
  obtain ⟨hp, m, hν⟩ := s.hp.new hk.size (fun b hb => hk.blk b hb (fun h => h)) hval hblk hro
  refine ⟨slots_put (fun k => (s.slots k).mv m hν) s.size d hr, hp, s.kp.trans hk (fun _ _ h => h.elim), ?_, by rw [size_put, s.size], ?_, ?_, ⟨Nat.le_succ_of_le s.low.1, s.low.2⟩⟩
  · intro i b g
    by_cases e : i = h.nx
    · have : vblk val = some b := by simpa [upd, e] using g
      exact .inl (Nat.le_trans s.kp.size (hblk b this).1)
    · exact s.fresh i b (by simpa [upd, e] using g)
  · rw [defers_put]
    refine s.defers.mv (fun b hb _ => hk.blk b hb (fun h => h)) (fun i b g => ?_)
    by_cases e : i = h.nx
    · exact .inr (hblk b (by simpa [upd, e] using g)).1
    · exact .inl ⟨i, by simpa [upd, e] using g⟩
  · intro i h1 h2
    have : i ≠ h.nx := fun e => h1 (s.low.2 i (by rw [e]; exact s.low.1))
    simp only [upd, this, if_false]
    exact s.keep i h1 h2

/-- a state behind an operation that looks alone, or a call that leaves all that was there -/
theorem St.seen (s : St q N0 w0 Nf n ν0 σ h a w ν) (hk : Kp (fun _ => False) w w') (d : Option Nat) {r : AV} {v : Value} (hr : Rv w' (nN N0 ν) ν [r] [v]) :
    St q N0 w0 Nf n ν0 (σ.putO n d r) h (a.put d v) w' ν := by
  have hb : ∀ b, b < w.heap.size → w'.heap[b]? = w.heap[b]? := fun b hb => hk.blk b hb (fun h => h)
  have m : Mv w (nN N0 ν) w' (nN N0 ν) := ⟨hk.size, fun b hlt hN => ⟨hN, hb b hlt⟩⟩
  refine ⟨slots_put (fun k => (s.slots k).mv m (fun _ _ => rfl)) s.size d hr, ?_, s.kp.trans hk (fun _ _ h => h.elim), s.fresh, by rw [size_put, s.size], by rw [defers_put]; exact s.defers.mv (fun b hlt _ => hb b hlt) (fun i b g => .inl ⟨i, g⟩), s.keep, s.low⟩
  exact ⟨fun id o hl => Ro.keep m (fun _ _ => rfl) (fun b g => hb b (s.hp.bnd id b g)) (s.hp.objs id o hl), s.hp.inj, fun i b g => Nat.lt_of_lt_of_le (s.hp.bnd i b g) hk.size, s.hp.dom,
    fun b hb' => Nat.lt_of_lt_of_le (s.hp.n0 b hb') hk.size, s.hp.dis, s.hp.lw.mv (fun b _ hlt => hb b hlt)⟩
end
end Go.Vc
end

section
set_option linter.unusedVariables false
set_option linter.unusedSimpArgs false
namespace Go.Vc

def zeroB : AV → Value → Bool
  | .d (.int k n), .int k' n' => kindEq k k' && decide (n = n')
  | .d (.bool b), .bool b' => b == b'
  | .d (.str []), .string s => s.data.toList.isEmpty
  | .nils, .slice none 0 0 => true
  | .val .nilFunc, .nilFunc => true
  | .val .nilIface, .nilIface => true
  | .val (.pointer none), .pointer none => true
  | .val (.map none), .map none => true
  | _, _ => false
def zerosB : List AV → List Value → Bool
  | [], [] => true
  | a :: as, v :: vs => zeroB a v && zerosB as vs
  | _, _ => false
def kindB : TK → TypeDesc → Bool
  | .int k, .int k' => kindEq k k'
  | .bool, .bool => true
  | .str, .string => true
  | .slice e, .slice e' => Nat.beq e e'
  | .struct fs, .struct fields => decide (fields.toList.map (fun f => (f.offset, f.type)) = fs)
  | .map k e, .map k' e' => Nat.beq k k' && Nat.beq e e'
  | .array n e, .array n' e' => Nat.beq n n' && Nat.beq e e'
  | .iface, .interface _ => true
  | .ptr, .pointer _ => true
  | .func, .func _ _ _ => true
  | _, _ => false
def methB (i : TypeInfo) : String × FuncId → Bool
  | (name, f) => match i.methods.find? (·.name == name) with
    | some m => m.path.isEmpty && (match m.func with | some (f', p) => Nat.beq f f' && !p | none => false)
    | none => false
def tiB (P : Program) (t : TypeId) (ti : TI) : Bool :=
  match P.info? t, P.underlying t with
  | some i, some d => Nat.beq i.size ti.size && Nat.beq i.bytes ti.bytes && (match i.zero with | some z => zerosB ti.zero z.cells.toList && Nat.beq z.cells.size ti.size && (match z with | .agg _ => ti.isAgg | _ => !ti.isAgg) | none => false) &&
      kindB ti.kind d && (ti.meths.all (methB i)) && (Nat.beq ti.size 1 || ti.isAgg)
  | _, _ => false
def strTI : TI := ⟨.str, 1, 16, [.d (.str [])], [], false⟩
/-- a struct of two texts -/
def pairB (P : Program) (t : TypeId) : Bool := match P.underlying t with
  | some (.struct fs) => match fs.toList with
    | [f, g] => !(f.name == "_") && !(g.name == "_") && Nat.beq f.offset 0 && Nat.beq g.offset 1 && tiB P f.type strTI && tiB P g.type strTI && !P.stoodInHeld t
    | _ => false
  | _ => false
def tabB (P : Program) : List (Nat × TI) → Bool
  | [] => true
  | (t, ti) :: r => tiB P t ti && (!ti.pair || pairB P t) && tabB P r

theorem kindEq_iff {a b : IntKind} : kindEq a b = true ↔ a = b := by cases a <;> cases b <;> simp [kindEq]

/-- what the table says of a type -/
structure TiOk (P : Program) (t : TypeId) (ti : TI) : Prop where
  info : ∃ i z, P.info? t = some i ∧ i.size = ti.size ∧ i.bytes = ti.bytes ∧ i.zero = some z ∧ zerosB ti.zero z.cells.toList = true ∧ z.cells.size = ti.size ∧ ti.meths.all (methB i) = true ∧ (match z with | .agg _ => ti.isAgg | _ => !ti.isAgg) = true
  kind : ∃ d, P.underlying t = some d ∧ kindB ti.kind d = true
  one : ti.isAgg = false → ti.size = 1
  pr : ti.pair = true → pairB P t = true

theorem tabB_ok {P : Program} : ∀ {T : List (Nat × TI)}, tabB P T = true → ∀ {t ti}, look T t = some ti → TiOk P t ti
  | [], _, _, _, h => by simp [look] at h
  | (k, x) :: r, hb, t, ti, h => by
    simp only [tabB, Bool.and_eq_true] at hb
    simp only [look] at h
    by_cases e : t = k
    · subst e
      rw [nbT] at h
      simp only [cond_true, Option.some.injEq] at h
      subst h
      have hp := hb.1.2
      have := hb.1.1
      unfold tiB at this
      split at this
      · rename_i i d hi hd
        simp only [Bool.and_eq_true] at this
        obtain ⟨⟨⟨⟨⟨h1, h2⟩, h3⟩, h4⟩, h5⟩, h6⟩ := this
        split at h3
        · rename_i z hz
          simp only [Bool.and_eq_true] at h3
          exact ⟨⟨i, z, hi, Nat.eq_of_beq_eq_true h1, Nat.eq_of_beq_eq_true h2, hz, h3.1.1, Nat.eq_of_beq_eq_true h3.1.2, h5, h3.2⟩, ⟨d, hd, h4⟩, fun hf => by
            rw [hf, Bool.or_false] at h6; exact Nat.eq_of_beq_eq_true h6, fun hq => by rw [hq] at hp; simpa using hp⟩
        · cases h3
      · cases this
    · rw [nbF e] at h
      exact tabB_ok hb.2 h

theorem zerosB_ok {w : World} {N : Nat → Prop} {ν : Nat → Value} : ∀ {as : List AV} {vs : List Value}, zerosB as vs = true → Rv w N ν as vs
  | [], [], _ => .nil
  | [], _ :: _, h => by simp [zerosB] at h
  | _ :: _, [], h => by simp [zerosB] at h
  | a :: as, v :: vs, h => by
    simp only [zerosB, Bool.and_eq_true] at h
    have ih := zerosB_ok (w := w) (N := N) (ν := ν) h.2
    have h1 := h.1
    unfold zeroB at h1
    split at h1
    · simp only [Bool.and_eq_true, kindEq_iff, decide_eq_true_eq] at h1
      obtain ⟨rfl, rfl⟩ := h1
      exact .d (.int _ _ .nil) ih
    · simp at h1; subst h1; exact .d (.bool _ .nil) ih
    · rename_i s
      have : s = mkS [] := by
        obtain ⟨⟨l⟩⟩ := s
        simp at h1
        subst h1; rfl
      subst this
      exact .d (.str [] (Nat.zero_le _) .nil) ih
    · exact .nils ih
    · exact .val _ ih
    · exact .val _ ih
    · exact .val _ ih
    · exact .val _ ih
    · cases h1

section
variable {P : Program} {t : TypeId} {ti : TI} {w : World}
theorem run_und (k : TiOk P t ti) : ∃ d, (underlying t).run P w = .ok d w ∧ kindB ti.kind d = true := by
  obtain ⟨d, h1, h2⟩ := k.kind
  exact ⟨d, run_underlying h1 w, h2⟩
theorem run_isAgg (k : TiOk P t ti) : (isAgg t).run P w = .ok ti.isAgg w := by
  obtain ⟨d, h1, h2⟩ := k.kind
  simp only [isAgg, Sem.run_bind, run_underlying h1, Result.andThen_ok]
  unfold kindB at h2
  split at h2 <;> simp_all [TI.isAgg]
theorem run_sizeOf' (k : TiOk P t ti) : (sizeOf t).run P w = .ok ti.size w := by
  obtain ⟨i, z, h1, h2, _⟩ := k.info
  simp [sizeOf, typeInfo, h1, h2]
theorem run_zero (k : TiOk P t ti) : ∃ z, (zeroValue t).run P w = .ok z w ∧ zerosB ti.zero z.cells.toList = true ∧ z.cells.size = ti.size := by
  obtain ⟨i, z, h1, h2, _, h3, h4, h5, _⟩ := k.info
  exact ⟨z, by simp [zeroValue, typeInfo, h1, h3], h4, h5⟩

/-- A VARIABLE READ: its cells stand from A on. -/
theorem run_loadVar' (k : TiOk P t ti) (b o : Nat) (cs : List Value) (hlen : cs.length = ti.size) (hc : ∀ (j : Nat) v, cs[j]? = some v → w.cell? ⟨b, o + j, none⟩ = some v) :
    (loadVar t ⟨b, o, none⟩).run P w = .ok (if ti.isAgg then .agg cs.toArray else cs.getD 0 undef) w := by
  have hl := run_loadCells_list (P := P) w ⟨b, o, none⟩ cs (fun j v hv => by rw [Addr.add_lit]; exact hc j v hv)
  rw [hlen] at hl
  simp only [loadVar, Sem.run_bind, run_isAgg k, Result.andThen_ok]
  cases hag : ti.isAgg with
  | true => simp [run_sizeOf' k, hl]
  | false =>
    have h1 := k.one hag
    cases cs with
    | nil => simp at hlen; omega
    | cons c cs =>
      have h2 := hc 0 c rfl
      rw [Nat.add_zero] at h2
      simp [h2]
end
end Go.Vc
end

section
set_option linter.unusedVariables false
set_option linter.unusedSimpArgs false
namespace Go.Vc

/-- the fence that lets all by; 'r': in which round one is -/
abbrev G (ro : Option Nat) : Fence := { Fence.wide with round := ro }
theorem semAt_run {P : Program} {ro : Option Nat} {o : Oper} {ρ : Operand → Value} {w w' : World} {x : Next} (hx : ∀ d, x ≠ .defer d) (hr : (execOp ρ o).run P w = .ok x w') : (o.semAt ro ρ).run P w = .ok x w' := by
  rw [Oper.semAt_eq]
  · exact hr
  · intro c hc
    unfold execOp at hr
    rw [hc] at hr
    simp only [Sem.run_bind] at hr
    cases h : (resolve ρ c o.type).run P w with
    | ok d w1 =>
      rw [h] at hr
      simp only [Result.andThen_ok, Sem.run_pure, Result.ok.injEq] at hr
      exact hx d hr.1.symm
    | halt d w1 => rw [h] at hr; cases hr
theorem wp_value {P : Program} {ro : Option Nat} {o : Oper} {a : Act} {w w' : World} {v : Value} {next : Act → World → Prop} {Q : Exit → Act → World → Prop}
    (hr : (execOp a.eval o).run P w = .ok (.value v) w') (h : next (a.put o.dst v) w') : o.wpIn (G ro) 0 P a w next Q := by
  refine ⟨fun _ _ => trivial, ?_⟩
  have e := semAt_run (ro := ro) (fun d h => by cases h) hr
  show o.uponIn (G ro) 0 P a next Q ((o.semAt ro a.eval).run P w)
  rw [e]; exact h
theorem wp_skip' {P : Program} {ro : Option Nat} {o : Oper} {a : Act} {w w' : World} {next : Act → World → Prop} {Q : Exit → Act → World → Prop}
    (hr : (execOp a.eval o).run P w = .ok .skip w') (h : next (a.put o.dst undef) w') : o.wpIn (G ro) 0 P a w next Q := by
  refine ⟨fun _ _ => trivial, ?_⟩
  have e := semAt_run (ro := ro) (fun d h => by cases h) hr
  show o.uponIn (G ro) 0 P a next Q ((o.semAt ro a.eval).run P w)
  rw [e]; exact h
theorem callsG {P : Program} {ro : Option Nat} {n : Nat} {f : FuncId} {args : Array Value} {w : World} {R : Ending → World → Prop} (h : Calls P f args w R) : CallsIn (G ro) n P f args w R := by
  have h' : CallsIn Fence.wide n P f args w R := callsIn_wide.2 h
  cases ro with
  | none => exact h'
  | some l => exact CallsIn.inRound l h'
theorem wp_enter {P : Program} {ro : Option Nat} {o : Oper} {a : Act} {w w' : World} {f : FuncId} {args : Array Value} {next : Act → World → Prop} {Q : Exit → Act → World → Prop}
    (hr : (execOp a.eval o).run P w = .ok (.enter f args) w') (h : Calls P f args w' fun e w'' => ∃ v, e = .returned v ∧ next (a.put o.dst v) w'') : o.wpIn (G ro) 0 P a w next Q := by
  refine ⟨fun _ _ => trivial, ?_⟩
  have e := semAt_run (ro := ro) (fun d h => by cases h) hr
  show o.uponIn (G ro) 0 P a next Q ((o.semAt ro a.eval).run P w)
  rw [e]
  refine ⟨fun h => by simp [G, Fence.wide] at h, callsG (h.mono fun e w'' ⟨v, he, hn⟩ => ?_)⟩
  subst he
  exact hn

section
variable {P : Program} {ro : Option Nat} {q : Bool} {T : List (Nat × TI)} {S : Specs} {N0 Nf : Nat → Prop} {w0 w : World} {n : Nat} {σ : Env} {h : Heap} {a : Act} {ν ν0 : Nat → Value} {Q : Exit → Act → World → Prop} {next : Act → World → Prop}

theorem mkS_toList (s : ByteArray) : mkS s.data.toList = s := by
  obtain ⟨⟨l⟩⟩ := s; rfl
theorem mkS_list (s : Bs) : (mkS s).data.toList = s := rfl

theorem cst_ok {N : Nat → Prop} (v : Value) : Rv w N ν [cst v] [v] := by
  unfold cst
  split
  · exact .d (.int _ _ .nil) .nil
  · rename_i s
    split
    · rename_i e
      have := mkS_toList s
      rw [e] at this
      rw [← this]
      exact .d (.str _ (Nat.zero_le _) .nil) .nil
    · rename_i c r e
      cases hb : Nat.ble (c :: r).length big with
      | true =>
        simp only [cond_true]
        have := mkS_toList s
        rw [e] at this
        rw [← this]
        exact .d (.str _ (Nat.le_of_ble_eq_true hb) .nil) .nil
      | false => exact .any _ .nil
  · exact .nils .nil
  · exact .val _ .nil

theorem norm_rv {N : Nat → Prop} {a : AV} {v : Value} (h : Rv w N ν [a] [v]) : Rv w N ν [norm a] [v] := by
  unfold norm
  split
  · cases h; exact .d (.bool _ .nil) .nil
  · exact h
theorem norm_rvs {N : Nat → Prop} : ∀ {as : List AV} {vs : List Value}, Rv w N ν as vs → Rv w N ν (as.map norm) vs
  | [], _, h => by cases h; exact .nil
  | a :: as, vs, h => by
    obtain ⟨v, r, rfl, h1, h2⟩ := h.cons_inv
    exact (norm_rv h1).cons (norm_rvs h2)
theorem rv_val {N : Nat → Prop} {u v : Value} (h : Rv w N ν [.val u] [v]) : v = u := by
  cases h; rfl
theorem ev_ok (s : St q N0 w0 Nf n ν0 σ h a w ν) (x : Operand) : Rv w (nN N0 ν) ν [ev σ x] [a.eval x] := by
  cases x with
  | tmp t => exact s.slots t
  | const v => exact cst_ok v
  | func f => exact .fn (cs := []) f [] .nil .nil
  | global g => exact .any _ .nil
theorem evs_ok (s : St q N0 w0 Nf n ν0 σ h a w ν) : ∀ (xs : List Operand), Rv w (nN N0 ν) ν (xs.map (ev σ)) (xs.map a.eval)
  | [] => .nil
  | x :: xs => (ev_ok s x).cons (evs_ok s xs)

variable {N : Nat → Prop}
theorem rv_bool {b : Bool} {v : Value} (h : Rv w N ν [.d (.bool b)] [v]) : v = .bool b := by
  cases h with | d h _ => cases h; rfl
theorem rv_int {k : IntKind} {m : Int} {v : Value} (h : Rv w N ν [.d (.int k m)] [v]) : v = .int k m := by
  cases h with | d h _ => cases h; rfl
theorem rv_str {s : Bs} {v : Value} (h : Rv w N ν [.d (.str s)] [v]) : v = .string (mkS s) ∧ s.length ≤ big := by
  cases h with | d h _ => cases h with | str _ h _ => exact ⟨rfl, h⟩
theorem rv_list {rows : List (List D)} {v : Value} (h : Rv w N ν [.d (.list rows)] [v]) : ∃ A cap sz cells, v = .slice A rows.length cap ∧ Rd w N rows.flatten cells ∧ (∀ r ∈ rows, r.length = sz) ∧ Placed w N A cells ∧
    rows.length ≤ cap ∧ rows.length ≤ big := by
  cases h with | d h _ => cases h with | list _ A cap sz cells h1 h2 h3 h4 h5 _ => exact ⟨A, cap, sz, cells, rfl, h1, h2, h3, h4, h5⟩
theorem rv_agg {cs : List AV} {v : Value} (h : Rv w N ν [.agg cs] [v]) : ∃ xs : List Value, v = .agg xs.toArray ∧ Rv w N ν cs xs := by
  cases h with | agg xs h _ => exact ⟨xs, rfl, h⟩
theorem rv_tup {cs : List AV} {v : Value} (h : Rv w N ν [.tup cs] [v]) : ∃ xs : List Value, v = .tuple xs.toArray ∧ Rv w N ν cs xs := by
  cases h with | tup xs h _ => exact ⟨xs, rfl, h⟩
theorem rv_ptr {id off : Nat} {v : Value} (h : Rv w N ν [.ptr id off] [v]) : ∃ b, v = .pointer (some ⟨b, off, none⟩) ∧ ν id = .pointer (some ⟨b, 0, none⟩) := by
  cases h with | ptr off h _ => exact ⟨_, rfl, h⟩
theorem rv_at {ds : List D} {v : Value} (h : Rv w N ν [.at_ ds] [v]) : ∃ b o cells, v = .pointer (some ⟨b, o, none⟩) ∧ cells ≠ [] ∧ ¬ N b ∧ Rd w N ds cells ∧
    ∀ (j : Nat) v, cells[j]? = some v → w.cell? ⟨b, o + j, none⟩ = some v := by
  cases h with
  | at_ A cells h0 h1 h2 _ =>
    rcases h2 with h2 | ⟨b, o, h2, h3, h4⟩
    · exact absurd h2 h0
    · obtain rfl : A = ⟨b, o, none⟩ := by injection h2
      exact ⟨b, o, cells, rfl, h0, h3, h1, h4⟩
theorem rv_rptr {id i sz off : Nat} {v : Value} (h : Rv w N ν [.rptr id i sz off] [v]) : ∃ b m c, v = .pointer (some ⟨b, i * sz + off, none⟩) ∧ ν id = .slice (some ⟨b, 0, none⟩) m c ∧ i < m := by
  cases h with | rptr i off sz h hi _ => exact ⟨_, _, _, rfl, h, hi⟩
theorem rv_own {id : Nat} {v : Value} (h : Rv w N ν [.own id] [v]) : v = ν id ∧ ∃ A m c, ν id = .slice A m c := by
  cases h with | own h _ => exact ⟨h.symm, _, _, _, h⟩
theorem rv_fn {f : FuncId} {cs : List AV} {v : Value} (h : Rv w N ν [.fn f cs] [v]) : ∃ xs : List Value, v = .func (.func f) #[] xs.toArray ∧ Rv w N ν cs xs := by
  cases h with | fn f xs h _ => exact ⟨xs, rfl, h⟩
theorem rv_bfn {f : FuncId} {cs : List AV} {v : Value} (h : Rv w N ν [.bfn f cs] [v]) : ∃ xs : List Value, v = .func (.func f) xs.toArray #[] ∧ Rv w N ν cs xs := by
  cases h with | bfn f xs h _ => exact ⟨xs, rfl, h⟩
theorem rv_iface {t : TypeId} {x : AV} {v : Value} (h : Rv w N ν [.iface t x] [v]) : ∃ u, v = .iface t u ∧ Rv w N ν [x] [u] := by
  cases h with | iface t h _ => exact ⟨_, rfl, h⟩
theorem rv_nils {v : Value} (h : Rv w N ν [.nils] [v]) : v = .slice none 0 0 := by
  cases h; rfl

/-- the cells of a value of a type -/
theorem cellsOf_ok {ti : TI} {x : AV} {v : Value} {cs : List AV} (h : Rv w N ν [x] [v]) (hc : cellsOf ti x = some cs) (h1 : ti.isAgg = false → ti.size = 1) :
    Rv w N ν cs v.cells.toList ∧ v.cells.size = ti.size ∧ cs.length = ti.size ∧ ∀ u ∈ v.cells.toList, u.oneCell' = true := by
  unfold cellsOf at hc
  split at hc
  · rename_i cs'
    cases hag : ti.isAgg <;> rw [hag] at hc
    · cases hc
    · simp only [cond_true] at hc
      cases hb : (Nat.beq cs'.length ti.size && oneL cs') <;> rw [hb] at hc
      · cases hc
      · simp only [cond_true, Option.some.injEq] at hc
        subst hc
        obtain ⟨xs, rfl, hx⟩ := rv_agg h
        simp only [Bool.and_eq_true] at hb
        have e := Nat.eq_of_beq_eq_true hb.1
        have hl := hx.length
        exact ⟨by simpa [Value.cells] using hx, by simp [Value.cells, hl, e], e, by simpa [Value.cells] using hx.oneL hb.2⟩
  · cases hag : ti.isAgg <;> rw [hag] at hc
    · simp only [cond_false] at hc
      cases ho : x.one <;> rw [ho] at hc
      · cases hc
      · simp only [cond_true, Option.some.injEq] at hc
        subst hc
        have hv := h.oneCell ho
        have : v.cells = #[v] := by cases v <;> first | rfl | simp [Value.oneCell'] at hv
        rw [this]
        refine ⟨by simpa using h, by simp [h1 hag], by simp [h1 hag], by simpa using hv⟩
    · cases hc

theorem loadL_ok {ti : TI} (k : ti.isAgg = false → ti.size = 1) {cs : List AV} {xs : List Value} (h : Rv w N ν cs xs) {r : AV} (hl : loadL ti cs = some r) :
    (xs.take ti.size).length = ti.size ∧ Rv w N ν [r] [if ti.isAgg then .agg (xs.take ti.size).toArray else (xs.take ti.size).getD 0 undef] := by
  unfold loadL at hl
  have hlen := h.length
  cases hag : ti.isAgg <;> rw [hag] at hl
  · simp only [cond_false] at hl
    cases cs with
    | nil => cases hl
    | cons c cs =>
      obtain ⟨v, r', rfl, h1, _⟩ := h.cons_inv
      simp only [List.head?_cons, Option.some.injEq] at hl
      subst hl
      have := k hag
      simp [this]
      exact h1
  · simp only [cond_true] at hl
    cases hb : Nat.ble ti.size cs.length <;> rw [hb] at hl
    · cases hl
    · simp only [cond_true, Option.some.injEq] at hl
      subst hl
      have hb' := Nat.le_of_ble_eq_true hb
      exact ⟨by simp; omega, by simp only [if_true]; exact .agg _ (h.take _) .nil⟩
theorem loadD_ok {ti : TI} (k : ti.isAgg = false → ti.size = 1) {cs : List D} {xs : List Value} (h : Rd w N cs xs) {r : AV} (hl : loadD ti cs = some r) :
    (xs.take ti.size).length = ti.size ∧ Rv w N ν [r] [if ti.isAgg then .agg (xs.take ti.size).toArray else (xs.take ti.size).getD 0 undef] := by
  have hv : Rv w N ν (cs.map .d) xs := Rv.ofRd h
  refine loadL_ok k hv ?_
  unfold loadD at hl
  unfold loadL
  simpa [List.map_take] using hl
end
end Go.Vc
end

section
set_option linter.unusedVariables false
set_option linter.unusedSimpArgs false
namespace Go.Vc
section
variable {P : Program} {ro : Option Nat} {q : Bool} {T : List (Nat × TI)} {S : Specs} {N0 Nf : Nat → Prop} {w0 w w' : World} {n : Nat} {σ : Env} {h : Heap} {a : Act} {ν ν' ν0 : Nat → Value} {Q : Exit → Act → World → Prop} {next : Act → World → Prop}

/-- a row of the call's own reads as a list, where its block is none of N' -/
theorem row_list (hp : Hp N0 w ν h) {i t sz : Nat} {rows : List (List D)} (hl : look h.objs i = some (.row t sz rows)) {N' : Nat → Prop} (hN : ∀ b, N' b → nN N0 ν b)
    (hi : ∀ b, vblk (ν i) = some b → ¬ N' b) {A : Option Addr} {m c : Nat} (hν : ν i = .slice A m c) : Rd w N' [.list rows] [.slice A m c] := by
  obtain ⟨A', c', cells, h1, h2, h3, h4, h5, h6⟩ := hp.objs i _ hl
  rw [hν] at h1
  injection h1 with e1 e2 e3
  subst e1 e2 e3
  have h2' : Rd w N' rows.flatten cells := h2.mv ⟨Nat.le_refl _, fun b _ hb => ⟨fun g => hb (hN b g), rfl⟩⟩
  rcases h6.2 with ⟨h6, h7⟩ | ⟨g, cap, cur, h6, _, h7, h8, _, _, h9⟩
  · rw [hν] at h6
    injection h6 with e1 e2 e3
    subst e1 e3
    have hr : rows = [] := List.eq_nil_of_length_eq_zero h7
    subst hr
    exact .list [] none 0 0 [] .nil (by simp) (.inl rfl) (Nat.le_refl _) (Nat.zero_le _) .nil
  · rw [hν] at h6
    injection h6 with e1 e2 e3
    subst e1 e3
    refine .list rows _ _ sz cells h2' h3 (.inr ⟨g, 0, rfl, hi g (by rw [hν]; rfl), fun j v hv => ?_⟩) h8 h4 .nil
    rw [← h9] at hv
    simp only [World.cell?, h7, Nat.zero_add]
    rw [List.getElem?_take] at hv
    split at hv
    · simpa using hv
    · cases hv

theorem Env.sub_slots {N N' : Nat → Prop} (m : Mv w N w' N') {i : Nat} {b : AV} (hν : ∀ id, id ≠ i → ν id ≠ undef → ν' id = ν id) (hb : ∀ A n c, ν i = .slice A n c → Rv w' N' ν' [b] [.slice A n c])
    {k : Nat} {v : Value} (h : Rv w N ν [σ k] [v]) : Rv w' N' ν' [(Env.sub i b σ) k] [v] := by
  have := h.sub m hν hb
  simpa [AV.subL, Env.sub] using this

theorem St.pub (s : St q N0 w0 Nf n ν0 σ h a w ν) {i t sz : Nat} {rows : List (List D)} (hl : look h.objs i = some (.row t sz rows)) :
    St q N0 w0 Nf n ν0 (Env.sub i (.d (.list rows)) σ) ⟨subO i (.d (.list rows)) (del i h.objs), h.nx, h.lo⟩ a w (upd ν i undef) := by
  have hup : ∀ j b, vblk (upd ν i undef j) = some b → j ≠ i ∧ vblk (ν j) = some b := by
    intro j b g
    by_cases e : j = i
    · simp [upd, e, undef, vblk] at g
    · exact ⟨e, by simpa [upd, e] using g⟩
  have hN : ∀ b, nN N0 (upd ν i undef) b → nN N0 ν b := by
    rintro b (g | ⟨j, g⟩)
    · exact .inl g
    · exact .inr ⟨j, (hup j b g).2⟩
  have m : Mv w (nN N0 ν) w (nN N0 (upd ν i undef)) := ⟨Nat.le_refl _, fun b _ hb => ⟨fun g => hb (hN b g), rfl⟩⟩
  have hν : ∀ id, id ≠ i → ν id ≠ undef → upd ν i undef id = ν id := fun id e _ => by simp [upd, e]
  have hb : ∀ A n c, ν i = .slice A n c → Rv w (nN N0 (upd ν i undef)) (upd ν i undef) [.d (.list rows)] [.slice A n c] := by
    intro A k c e
    refine .d (row_list s.hp hl hN ?_ e) .nil
    rintro b g (g' | ⟨j, g'⟩)
    · exact s.hp.dis i b g g'
    · have := hup j b g'
      exact this.1 (s.hp.inj j i b this.2 g)
  refine ⟨fun k => Env.sub_slots m hν hb (s.slots k), ⟨?_, ?_, ?_, ?_, s.hp.n0, ?_, s.hp.lw⟩, s.kp, ?_, s.size, s.defers.mv (fun _ _ _ => rfl) (fun j b g => .inl ⟨j, (hup j b g).2⟩), ?_, s.low⟩
  · intro id o ho
    rw [look_subO, look_del] at ho
    by_cases e : id = i
    · rw [if_pos e] at ho; cases ho
    · rw [if_neg e] at ho
      cases hq : look h.objs id with
      | none => rw [hq] at ho; cases ho
      | some o' =>
        rw [hq] at ho
        simp only [Option.map_some, Option.some.injEq] at ho
        subst ho
        exact Ro.keepSub m hν hb e (fun _ _ => rfl) (s.hp.objs id o' hq)
  · exact fun j k b g1 g2 => s.hp.inj j k b (hup j b g1).2 (hup k b g2).2
  · exact fun j b g => s.hp.bnd j b (hup j b g).2
  · intro j hj
    by_cases e : j = i
    · simp [upd, e]
    · simpa [upd, e] using s.hp.dom j hj
  · exact fun j b g => s.hp.dis j b (hup j b g).2
  · exact fun j b g => s.fresh j b (hup j b g).2
  · intro j h1 h2
    by_cases e : j = i
    · subst e
      obtain ⟨A', c', cells, h3, _⟩ := s.hp.objs _ _ hl
      exact absurd (by rw [← s.keep j h1 h2]; exact h3) (h2 _ _ _)
    · simp only [upd, e, if_false]
      exact s.keep j h1 h2

theorem St.pubs : ∀ (ids : List Nat) {σ : Env} {l l' : List (Nat × AO)} {x y : Nat} {m : List (Nat × AV)} {ν : Nat → Value}, St q N0 w0 Nf n ν0 σ ⟨l, x, y⟩ a w ν → pubs ids l = (l', m) →
    ∃ ν', St q N0 w0 Nf n ν0 (σ.subs m) ⟨l', x, y⟩ a w ν' ∧ (∀ j, ν' j = ν j ∨ ν' j = undef) ∧ ∀ i ∈ ids, (∃ t sz rows, look l i = some (.row t sz rows)) → ν' i = undef
  | [], σ, l, l', x, y, m, ν, s, e => by
    simp only [Vc.pubs, Prod.mk.injEq] at e
    obtain ⟨rfl, rfl⟩ := e
    exact ⟨ν, s, fun _ => .inl rfl, by simp⟩
  | i :: is, σ, l, l', x, y, m, ν, s, e => by
    unfold Vc.pubs at e
    split at e
    · rename_i t sz rows hl
      generalize hq : Vc.pubs is (subO i (.d (.list rows)) (del i l)) = q at e
      obtain ⟨l2, m2⟩ := q
      simp only [Prod.mk.injEq] at e
      obtain ⟨rfl, rfl⟩ := e
      obtain ⟨ν', s', h1, h2⟩ := St.pubs is (s.pub hl) hq
      have hi : ν' i = undef := by
        rcases h1 i with g | g
        · rw [g]; simp [upd]
        · exact g
      refine ⟨ν', s', fun j => ?_, ?_⟩
      · rcases h1 j with g | g
        · by_cases e : j = i
          · right; rw [g]; simp [upd, e]
          · left; rw [g]; simp [upd, e]
        · exact .inr g
      · intro j hj hrow
        by_cases e : j = i
        · rw [e]; exact hi
        · refine h2 j ((List.mem_cons.1 hj).resolve_left e) ?_
          obtain ⟨t', sz', rows', hr⟩ := hrow
          exact ⟨t', sz', rows', by rw [look_subO, look_del, if_neg e, hr]; rfl⟩
    · rename_i hno
      obtain ⟨ν', s', h1, h2⟩ := St.pubs is s e
      refine ⟨ν', s', h1, fun j hj hrow => ?_⟩
      rcases List.mem_cons.1 hj with rfl | hj
      · obtain ⟨t, sz, rows, hr⟩ := hrow
        exact absurd hr (by intro g; exact hno t sz rows g)
      · exact h2 j hj hrow

theorem Rv.pub (s : St q N0 w0 Nf n ν0 σ h a w ν) {i t sz : Nat} {rows : List (List D)} (hl : look h.objs i = some (.row t sz rows)) {as : List AV} {vs : List Value} (hr : Rv w (nN N0 ν) ν as vs) :
    Rv w (nN N0 (upd ν i undef)) (upd ν i undef) (AV.subL i (.d (.list rows)) as) vs := by
  have hup : ∀ j b, vblk (upd ν i undef j) = some b → j ≠ i ∧ vblk (ν j) = some b := by
    intro j b g
    by_cases e : j = i
    · simp [upd, e, undef, vblk] at g
    · exact ⟨e, by simpa [upd, e] using g⟩
  have hN : ∀ b, nN N0 (upd ν i undef) b → nN N0 ν b := by
    rintro b (g | ⟨j, g⟩)
    · exact .inl g
    · exact .inr ⟨j, (hup j b g).2⟩
  have m : Mv w (nN N0 ν) w (nN N0 (upd ν i undef)) := ⟨Nat.le_refl _, fun b _ hb => ⟨fun g => hb (hN b g), rfl⟩⟩
  have hν : ∀ id, id ≠ i → ν id ≠ undef → upd ν i undef id = ν id := fun id e _ => by simp [upd, e]
  have hb : ∀ A n c, ν i = .slice A n c → Rv w (nN N0 (upd ν i undef)) (upd ν i undef) [.d (.list rows)] [.slice A n c] := by
    intro A k c e
    refine .d (row_list s.hp hl hN ?_ e) .nil
    rintro b g (g' | ⟨j, g'⟩)
    · exact s.hp.dis i b g g'
    · have := hup j b g'
      exact this.1 (s.hp.inj j i b this.2 g)
  exact hr.sub m hν hb
/-- rows are made data: what arguments are then -/
theorem St.pubsR : ∀ (ids : List Nat) {σ : Env} {l l' : List (Nat × AO)} {x y : Nat} {m : List (Nat × AV)} {ν : Nat → Value}, St q N0 w0 Nf n ν0 σ ⟨l, x, y⟩ a w ν → Vc.pubs ids l = (l', m) →
    ∃ ν', St q N0 w0 Nf n ν0 (σ.subs m) ⟨l', x, y⟩ a w ν' ∧ (∀ j, ν' j = ν j ∨ ν' j = undef) ∧ (∀ j, (∀ A k c, ν j ≠ .slice A k c) → ν' j = ν j) ∧ ∀ as vs, Rv w (nN N0 ν) ν as vs → Rv w (nN N0 ν') ν' (AV.subsL m as) vs
  | [], σ, l, l', x, y, m, ν, s, e => by
    simp only [Vc.pubs, Prod.mk.injEq] at e
    obtain ⟨rfl, rfl⟩ := e
    exact ⟨ν, s, fun _ => .inl rfl, fun _ _ => rfl, fun _ _ h => h⟩
  | i :: is, σ, l, l', x, y, m, ν, s, e => by
    unfold Vc.pubs at e
    split at e
    · rename_i t sz rows hl
      generalize hq : Vc.pubs is (subO i (.d (.list rows)) (del i l)) = q at e
      obtain ⟨l2, m2⟩ := q
      simp only [Prod.mk.injEq] at e
      obtain ⟨rfl, rfl⟩ := e
      obtain ⟨ν', s', h1, h2, h3⟩ := St.pubsR is (s.pub hl) hq
      obtain ⟨A', c', cells, hi, _⟩ := s.hp.objs _ _ hl
      have hup : ∀ j, (∀ A k c, ν j ≠ .slice A k c) → upd ν i undef j = ν j := fun j hj => by
        by_cases e : j = i
        · subst e; exact absurd hi (hj _ _ _)
        · simp [upd, e]
      refine ⟨ν', s', fun j => ?_, fun j hj => ?_, fun as vs hr => h3 _ _ (Rv.pub s hl hr)⟩
      · rcases h1 j with g | g
        · by_cases e : j = i
          · right; rw [g]; simp [upd, e]
          · left; rw [g]; simp [upd, e]
        · exact .inr g
      · rw [h2 j (by rw [hup j hj]; exact hj), hup j hj]
    · exact St.pubsR is s e
/-- looked at as data -/
theorem view_ok (hp : Hp N0 w ν h) {N' : Nat → Prop} (hN : ∀ b, N' b → nN N0 ν b) {ν0 : Nat → Value} : ∀ {as : List AV} {vs : List Value}, Rv w (nN N0 ν) ν as vs →
    (∀ id ∈ AV.ownsL as, ∀ b, vblk (ν id) = some b → (∃ t sz rows, look h.objs id = some (.row t sz rows)) → ¬ N' b) → Rv w N' ν0 (AV.viewL h.objs as) vs := by
  have m : Mv w (nN N0 ν) w N' := ⟨Nat.le_refl _, fun b _ hb => ⟨fun g => hb (hN b g), rfl⟩⟩
  intro as vs hr
  induction hr with
  | nil => intro _; simp only [AV.viewL]; exact .nil
  | any v _ ih => intro hd; simp only [AV.viewL, AV.view]; exact .any v (ih (fun id hid => hd id (by simp [AV.ownsL, AV.owns, hid])))
  | d h1 _ ih => intro hd; simp only [AV.viewL, AV.view]; exact .d (h1.mv m) (ih (fun id hid => hd id (by simp [AV.ownsL, AV.owns, hid])))
  | nils _ ih => intro hd; simp only [AV.viewL, AV.view]; exact .d (.list [] none 0 0 [] .nil (by simp) (.inl rfl) (Nat.le_refl _) (Nat.zero_le _) .nil) (ih (fun id hid => hd id (by simp [AV.ownsL, AV.owns, hid])))
  | val v _ ih =>
    intro hd
    have ih' := ih (fun id hid => hd id (by simp [AV.ownsL, AV.owns, hid]))
    simp only [AV.viewL]
    cases v <;> simp only [AV.view] <;> first | exact .val _ ih' | exact .d (.bool _ .nil) ih'
  | agg xs _ _ ih1 ih2 =>
    intro hd; simp only [AV.viewL, AV.view]
    exact .agg xs (ih1 (fun id hid => hd id (by simp [AV.ownsL, AV.owns, hid]))) (ih2 (fun id hid => hd id (by simp [AV.ownsL, AV.owns, hid])))
  | tup xs _ _ ih1 ih2 =>
    intro hd; simp only [AV.viewL, AV.view]
    exact .tup xs (ih1 (fun id hid => hd id (by simp [AV.ownsL, AV.owns, hid]))) (ih2 (fun id hid => hd id (by simp [AV.ownsL, AV.owns, hid])))
  | ptr off h1 _ ih => intro hd; simp only [AV.viewL, AV.view]; exact .any _ (ih (fun id hid => hd id (by simp [AV.ownsL, AV.owns, hid])))
  | at_ A cells h0 h1 h2 _ ih => intro hd; simp only [AV.viewL, AV.view]; exact .at_ A cells h0 (h1.mv m) (h2.mv m) (ih (fun id hid => hd id (by simp [AV.ownsL, AV.owns, hid])))
  | rptr i off sz h1 hi _ ih => intro hd; simp only [AV.viewL, AV.view]; exact .any _ (ih (fun id hid => hd id (by simp [AV.ownsL, AV.owns, hid])))
  | @own as vs id A k c h1 _ ih =>
    intro hd
    have ih' := ih (fun id hid => hd id (by simp [AV.ownsL, AV.owns, hid]))
    simp only [AV.viewL, AV.view]
    split
    · rename_i t sz rows hl
      exact .d (row_list hp hl hN (fun b g => hd id (by simp [AV.ownsL, AV.owns]) b g ⟨t, sz, rows, hl⟩) h1) ih'
    · exact .any _ ih'
  | mapr h1 _ ih => intro hd; simp only [AV.viewL, AV.view]; exact .any _ (ih (fun id hid => hd id (by simp [AV.ownsL, AV.owns, hid])))
  | fn f xs _ _ ih1 ih2 =>
    intro hd; simp only [AV.viewL, AV.view]
    exact .fn f xs (ih1 (fun id hid => hd id (by simp [AV.ownsL, AV.owns, hid]))) (ih2 (fun id hid => hd id (by simp [AV.ownsL, AV.owns, hid])))
  | bfn f xs _ _ ih1 ih2 =>
    intro hd; simp only [AV.viewL, AV.view]
    exact .bfn f xs (ih1 (fun id hid => hd id (by simp [AV.ownsL, AV.owns, hid]))) (ih2 (fun id hid => hd id (by simp [AV.ownsL, AV.owns, hid])))
  | iface t _ _ ih1 ih2 =>
    intro hd
    have ih1' := ih1 (fun id hid => hd id (by simp [AV.ownsL, AV.owns] at hid ⊢; simp [hid]))
    simp only [AV.viewL, AV.view] at ih1' ⊢
    exact .iface t ih1' (ih2 (fun id hid => hd id (by simp [AV.ownsL, AV.owns, hid])))

theorem Rv.lt {N N' : Nat → Prop} (m : Mv w N w N') (hν : ∀ id, id < n → ν' id = ν id) {as : List AV} {vs : List Value} (h : Rv w N ν as vs) : AV.ltL n as = true → Rv w N' ν' as vs := by
  induction h with
  | nil => intro _; exact .nil
  | any v _ ih => intro hl; simp only [AV.ltL, AV.lt, Bool.and_eq_true] at hl; exact .any v (ih hl.2)
  | d h _ ih => intro hl; simp only [AV.ltL, AV.lt, Bool.and_eq_true] at hl; exact .d (h.mv m) (ih hl.2)
  | nils _ ih => intro hl; simp only [AV.ltL, AV.lt, Bool.and_eq_true] at hl; exact .nils (ih hl.2)
  | val v _ ih => intro hl; simp only [AV.ltL, AV.lt, Bool.and_eq_true] at hl; exact .val v (ih hl.2)
  | agg xs _ _ ih1 ih2 => intro hl; simp only [AV.ltL, AV.lt, Bool.and_eq_true] at hl; exact .agg xs (ih1 hl.1) (ih2 hl.2)
  | tup xs _ _ ih1 ih2 => intro hl; simp only [AV.ltL, AV.lt, Bool.and_eq_true] at hl; exact .tup xs (ih1 hl.1) (ih2 hl.2)
  | ptr off h _ ih => intro hl; simp only [AV.ltL, AV.lt, Bool.and_eq_true] at hl; exact .ptr off (by rw [hν _ (Nat.le_of_ble_eq_true hl.1), h]) (ih hl.2)
  | at_ A cells h0 h1 h2 _ ih => intro hl; simp only [AV.ltL, AV.lt, Bool.and_eq_true] at hl; exact .at_ A cells h0 (h1.mv m) (h2.mv m) (ih hl.2)
  | rptr i off sz h hi _ ih => intro hl; simp only [AV.ltL, AV.lt, Bool.and_eq_true] at hl; exact .rptr i off sz (by rw [hν _ (Nat.le_of_ble_eq_true hl.1), h]) hi (ih hl.2)
  | own h _ ih => intro hl; simp only [AV.ltL, AV.lt, Bool.and_eq_true] at hl; exact .own (by rw [hν _ (Nat.le_of_ble_eq_true hl.1), h]) (ih hl.2)
  | mapr h _ ih => intro hl; simp only [AV.ltL, AV.lt, Bool.and_eq_true] at hl; exact .mapr (by rw [hν _ (Nat.le_of_ble_eq_true hl.1), h]) (ih hl.2)
  | fn f xs _ _ ih1 ih2 => intro hl; simp only [AV.ltL, AV.lt, Bool.and_eq_true] at hl; exact .fn f xs (ih1 hl.1) (ih2 hl.2)
  | bfn f xs _ _ ih1 ih2 => intro hl; simp only [AV.ltL, AV.lt, Bool.and_eq_true] at hl; exact .bfn f xs (ih1 hl.1) (ih2 hl.2)
  | iface t _ _ ih1 ih2 =>
    intro hl
    simp only [AV.ltL, AV.lt, Bool.and_eq_true] at hl ih1
    exact .iface t (ih1 ⟨hl.1, trivial⟩) (ih2 hl.2)


theorem flat1 (hp : Hp N0 w ν h) {a : AV} {v : Value} (hr : Rv w (nN N0 ν) ν [a] [v]) :
    (∀ x, flatA h.objs a = .d x → Rd w N0 [x] [v]) ∧ (flatA h.objs a = .nils → v = .slice none 0 0) ∧ (∀ f, flatA h.objs a = .fn f [] → v = .func (.func f) #[] #[]) := by
  have m : Mv w (nN N0 ν) w N0 := ⟨Nat.le_refl _, fun b _ hb => ⟨fun g => hb (.inl g), rfl⟩⟩
  cases hr with
  | d h1 _ => exact ⟨fun x e => by simp only [flatA, AV.d.injEq] at e; subst e; exact h1.mv m, fun e => (by simp [flatA] at e), fun f e => (by simp [flatA] at e)⟩
  | nils _ => exact ⟨fun x e => (by simp [flatA] at e), fun _ => rfl, fun f e => (by simp [flatA] at e)⟩
  | fn f xs h1 _ =>
    refine ⟨fun x e => (by simp [flatA] at e), fun e => (by simp [flatA] at e), fun f' e => ?_⟩
    simp only [flatA, AV.fn.injEq] at e
    obtain ⟨rfl, rfl⟩ := e
    cases h1
    rfl
  | val v _ =>
    cases v <;> refine ⟨fun x e => ?_, fun e => (by simp [flatA] at e), fun f e => (by simp [flatA] at e)⟩ <;> simp [flatA] at e
    subst e
    exact .bool _ .nil
  | @own _ _ id A k c h1 _ =>
    simp only [flatA]
    split
    · rename_i t sz rows hl
      exact ⟨fun x e => by simp only [AV.d.injEq] at e; subst e; exact row_list hp hl (fun b g => .inl g) (fun b g => hp.dis id b g) h1, fun e => (by cases e), fun f e => (by cases e)⟩
    · exact ⟨fun x e => (by cases e), fun e => (by cases e), fun f e => (by cases e)⟩
  | _ => exact ⟨fun x e => (by simp [flatA] at e), fun e => (by simp [flatA] at e), fun f e => (by simp [flatA] at e)⟩
theorem flat_ok (hp : Hp N0 w ν h) : ∀ {as : List AV} {vs : List Value} {ds : List D}, Rv w (nN N0 ν) ν as vs → dsOf (as.map (flatA h.objs)) = some ds → Rd w N0 ds vs
  | [], _, _, hr, hd => by cases hr; simp [dsOf] at hd; subst hd; exact .nil
  | a :: as, _, ds, hr, hd => by
    obtain ⟨v, r, rfl, h1, h2⟩ := hr.cons_inv
    obtain ⟨f1, f2, f3⟩ := flat1 hp h1
    simp only [List.map_cons] at hd
    generalize flatA h.objs a = b at f1 f2 f3 hd
    unfold dsOf at hd
    split at hd
    · rename_i e; cases e
    · rename_i x r' e
      injection e with e1 e2
      subst e1 e2
      simp only [Option.map_eq_some_iff] at hd
      obtain ⟨ds', hd', rfl⟩ := hd
      exact (f1 x rfl).append (flat_ok hp h2 hd')
    · rename_i r' e
      injection e with e1 e2
      subst e1 e2
      simp only [Option.map_eq_some_iff] at hd
      obtain ⟨ds', hd', rfl⟩ := hd
      rw [f2 rfl]
      exact .list [] none 0 0 [] .nil (by simp) (.inl rfl) (Nat.le_refl _) (Nat.zero_le _) (flat_ok hp h2 hd')
    · rename_i f r' e
      injection e with e1 e2
      subst e1 e2
      simp only [Option.map_eq_some_iff] at hd
      obtain ⟨ds', hd', rfl⟩ := hd
      rw [f3 f rfl]
      exact .fn f (flat_ok hp h2 hd')
    · cases hd
/-- looked at as data, boxes too -/
theorem look_ok (hp : Hp N0 w ν h) {ν0 : Nat → Value} : ∀ {as : List AV} {vs : List Value}, Rv w (nN N0 ν) ν as vs → Rv w N0 ν0 (AV.lookL h.objs as) vs := by
  have m : Mv w (nN N0 ν) w N0 := ⟨Nat.le_refl _, fun b _ hb => ⟨fun g => hb (.inl g), rfl⟩⟩
  intro as vs hr
  induction hr with
  | nil => simp only [AV.lookL]; exact .nil
  | any v _ ih => simp only [AV.lookL, AV.lookV]; exact .any v ih
  | d h1 _ ih => simp only [AV.lookL, AV.lookV]; exact .d (h1.mv m) ih
  | nils _ ih => simp only [AV.lookL, AV.lookV]; exact .d (.list [] none 0 0 [] .nil (by simp) (.inl rfl) (Nat.le_refl _) (Nat.zero_le _) .nil) ih
  | val v _ ih =>
    simp only [AV.lookL]
    cases v <;> simp only [AV.lookV] <;> first | exact .val _ ih | exact .d (.bool _ .nil) ih
  | agg xs _ _ ih1 ih2 => simp only [AV.lookL, AV.lookV]; exact .agg xs ih1 ih2
  | tup xs _ _ ih1 ih2 => simp only [AV.lookL, AV.lookV]; exact .tup xs ih1 ih2
  | @ptr as vs id b off h1 _ ih =>
    simp only [AV.lookL, AV.lookV]
    split
    · rename_i t cs hl
      split
      · rename_i x r hd
        obtain ⟨b', arr, e, p1, p2, p3⟩ := hp.objs _ _ hl
        rw [h1] at p1
        obtain rfl : b = b' := by injection p1 with q1; injection q1 with q1; injection q1
        have hrd := flat_ok hp (p3.drop off) hd
        have hne : arr.toList.drop off ≠ [] := fun e => by have := hrd.length; rw [e] at this; simp at this
        refine .at_ ⟨b, off, none⟩ (arr.toList.drop off) hne hrd (.inr ⟨b, off, rfl, hp.dis id b (by rw [h1]; rfl), fun j v hv => ?_⟩) ih
        rw [List.getElem?_drop] at hv
        simpa [World.cell?, p2] using hv
      · exact .any _ ih
    · exact .any _ ih
  | at_ A cells h0 h1 h2 _ ih => simp only [AV.lookL, AV.lookV]; exact .at_ A cells h0 (h1.mv m) (h2.mv m) ih
  | rptr i off sz h1 hi _ ih => simp only [AV.lookL, AV.lookV]; exact .any _ ih
  | @own as vs id A k c h1 _ ih =>
    simp only [AV.lookL, AV.lookV]
    split
    · rename_i t sz rows hl
      exact .d (row_list hp hl (fun b g => .inl g) (fun b g => hp.dis id b g) h1) ih
    · exact .any _ ih
  | mapr h1 _ ih => simp only [AV.lookL, AV.lookV]; exact .any _ ih
  | fn f xs _ _ ih1 ih2 => simp only [AV.lookL, AV.lookV]; exact .fn f xs ih1 ih2
  | bfn f xs _ _ ih1 ih2 => simp only [AV.lookL, AV.lookV]; exact .bfn f xs ih1 ih2
  | iface t _ _ ih1 ih2 =>
    simp only [AV.lookL, AV.lookV] at ih1 ⊢
    exact .iface t ih1 ih2
/-- what the names of rows stand for -/
def slOf (ν : Nat → Value) (id : Nat) : Option Addr × Nat := match ν id with | .slice A _ c => (A, c) | _ => (none, 0)
theorem lens_ok (hp : Hp N0 w ν h) {ν0 : Nat → Value} : ∀ {as : List AV} {vs : List Value}, Rv w (nN N0 ν) ν as vs → Rv w (nN N0 ν) ν0 (AV.lensL h.objs (slOf ν) as) vs := by
  intro as vs hr
  induction hr with
  | nil => simp only [AV.lensL]; exact .nil
  | any v _ ih => simp only [AV.lensL, AV.lens]; exact .any v ih
  | d h1 _ ih => simp only [AV.lensL, AV.lens]; exact .d h1 ih
  | nils _ ih => simp only [AV.lensL, AV.lens]; exact .d (.list [] none 0 0 [] .nil (by simp) (.inl rfl) (Nat.le_refl _) (Nat.zero_le _) .nil) ih
  | val v _ ih =>
    simp only [AV.lensL]
    cases v <;> simp only [AV.lens] <;> first | exact .val _ ih | exact .d (.bool _ .nil) ih
  | agg xs _ _ ih1 ih2 => simp only [AV.lensL, AV.lens]; exact .agg xs ih1 ih2
  | tup xs _ _ ih1 ih2 => simp only [AV.lensL, AV.lens]; exact .tup xs ih1 ih2
  | ptr off h1 _ ih => simp only [AV.lensL, AV.lens]; exact .any _ ih
  | at_ A cells h0 h1 h2 _ ih => simp only [AV.lensL, AV.lens]; exact .at_ A cells h0 h1 h2 ih
  | rptr i off sz h1 hi _ ih => simp only [AV.lensL, AV.lens]; exact .any _ ih
  | @own as vs id A k c h1 _ ih =>
    simp only [AV.lensL, AV.lens]
    split
    · rename_i t sz rows hl
      obtain ⟨A', c', cells, q1, _⟩ := hp.objs _ _ hl
      rw [h1] at q1
      injection q1 with e1 e2 e3
      subst e1 e2 e3
      have : slOf ν id = (A, c) := by simp [slOf, h1]
      rw [this]
      exact .val _ ih
    · exact .any _ ih
  | mapr h1 _ ih => simp only [AV.lensL, AV.lens]; exact .any _ ih
  | fn f xs _ _ ih1 ih2 => simp only [AV.lensL, AV.lens]; exact .any _ ih2
  | bfn f xs _ _ ih1 ih2 => simp only [AV.lensL, AV.lens]; exact .any _ ih2
  | iface t _ _ ih1 ih2 => simp only [AV.lensL, AV.lens]; exact .any _ ih2
/-- names moved on -/
theorem sh_ok {N N' : Nat → Prop} {k : Nat} (m : Mv w N w N') (hν : ∀ id, ν' (id + k) = ν id) : ∀ {as : List AV} {vs : List Value}, Rv w N ν as vs → Rv w N' ν' (AV.shL k as) vs := by
  intro as vs hr
  induction hr with
  | nil => simp only [AV.shL]; exact .nil
  | any v _ ih => simp only [AV.shL, AV.sh]; exact .any v ih
  | d h1 _ ih => simp only [AV.shL, AV.sh]; exact .d (h1.mv m) ih
  | nils _ ih => simp only [AV.shL, AV.sh]; exact .nils ih
  | val v _ ih => simp only [AV.shL, AV.sh]; exact .val v ih
  | agg xs _ _ ih1 ih2 => simp only [AV.shL, AV.sh]; exact .agg xs ih1 ih2
  | tup xs _ _ ih1 ih2 => simp only [AV.shL, AV.sh]; exact .tup xs ih1 ih2
  | ptr off h1 _ ih => simp only [AV.shL, AV.sh]; exact .any _ ih
  | at_ A cells h0 h1 h2 _ ih => simp only [AV.shL, AV.sh]; exact .at_ A cells h0 (h1.mv m) (h2.mv m) ih
  | rptr i off sz h1 hi _ ih => simp only [AV.shL, AV.sh]; exact .any _ ih
  | own h1 _ ih => simp only [AV.shL, AV.sh]; exact .own (by rw [hν, h1]) ih
  | mapr h1 _ ih => simp only [AV.shL, AV.sh]; exact .any _ ih
  | fn f xs _ _ ih1 ih2 => simp only [AV.shL, AV.sh]; exact .any _ ih2
  | bfn f xs _ _ ih1 ih2 => simp only [AV.shL, AV.sh]; exact .any _ ih2
  | iface t _ _ ih1 ih2 => simp only [AV.shL, AV.sh]; exact .any _ ih2
theorem look_shO {k : Nat} {l0 l2 : List (Nat × AO)} {j : Nat} {o : AO} : ∀ {l : List (Nat × AO)}, look (shO k l0 l l2) j = some o →
    (∃ i t sz rows, j = i + k ∧ o = .row t sz rows ∧ look l0 i = some o) ∨ look l2 j = some o
  | [], h => .inr (by simpa [shO] using h)
  | (i, x) :: r, h => by
    simp only [shO] at h
    split at h
    · rename_i t sz rows hl
      simp only [look] at h
      by_cases e : j = i + k
      · subst e
        rw [nbT] at h
        simp only [cond_true, Option.some.injEq] at h
        exact .inl ⟨i, t, sz, rows, rfl, h.symm, by rw [hl, h]⟩
      · rw [nbF e] at h
        exact look_shO h
    · exact look_shO h

/-- THE MEANING OF A CONTRACT over objects of the caller's: called in such a heap, the function returns such a value and leaves such a heap; of what is no row the names stand for what they stood for. -/
def HeapOk (P : Program) (f : FuncId) (args : List AV) (h : Heap) (r : AV) (h' : Heap) : Prop :=
  ∀ (N0 : Nat → Prop) (w : World) (ν : Nat → Value) (vs : List Value), Hp N0 w ν h → Rv w (nN N0 ν) ν args vs →
    Calls P f vs.toArray w fun e w' => ∃ v ν', e = .returned v ∧ Hp N0 w' ν' h' ∧ Rv w' (nN N0 ν') ν' [r] [v] ∧ Kp (fun b => ∃ id, vblk (ν id) = some b) w w' ∧
      (∀ id, ν id ≠ undef → (∀ A m c, ν id ≠ .slice A m c) → ν' id = ν id) ∧ (∀ id b, vblk (ν' id) = some b → (∃ j, vblk (ν j) = some b) ∨ w.heap.size ≤ b) ∧ h'.lo = h.lo ∧ h.nx ≤ h'.nx
/-- THE MEANING OF A CONTRACT: called with such values in whatever world, the function returns such a value; all that was there stands. -/
def PureOk (P : Program) (f : FuncId) (args : List AV) (r : AV) : Prop :=
  ∀ (N : Nat → Prop) (w : World) (vs : List Value), (∀ b, N b → b < w.heap.size) → LwOk N w → Rv w N (fun _ => undef) args vs →
    Calls P f vs.toArray w fun e w' => ∃ v, e = .returned v ∧ Kp (fun _ => False) w w' ∧ Rv w' N (fun _ => undef) [r] [v]
end
end Go.Vc
end
