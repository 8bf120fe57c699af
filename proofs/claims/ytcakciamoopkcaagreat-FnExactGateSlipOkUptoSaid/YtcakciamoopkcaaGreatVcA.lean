/- A verification condition generator for the loaded Go code: abstract values, abstract heaps, and the condition 'vc' of a piece of code, computed by recursion. Its soundness is proved in the next texts. -/
import Derived.Calls
import Derived.Still
import Derived.Laws.AppendOwn
import Derived.Laws.CopyRow
namespace Go.Vc

abbrev Bs := List UInt8
def big : Nat := 1073741824

/-- Plain data, cell by cell: a number, a bool, a text, a slice of rows of cells. A struct is the list of its cells. -/
inductive D where
  | int (k : IntKind) (n : Int)
  | bool (b : Bool)
  | str (s : Bs)
  | list (rows : List (List D))

/-- What is known of a Go value. 'd': it reads as this data, in memory that nobody writes. 'own': a slice over a row of the call's own. 'ptr': the address of a cell of a block of the call's own. 'at_': the address of cells that read so. -/
inductive AV where
  | any
  | d (x : D)
  | nils
  | val (v : Value)
  | agg (cs : List AV)
  | tup (vs : List AV)
  | ptr (id off : Nat)
  | at_ (ds : List D)
  | rptr (id i sz off : Nat)
  | own (id : Nat)
  | mapr (id : Nat)
  | fn (f : FuncId) (caps : List AV)
  | iface (t : TypeId) (x : AV)

inductive TK where
  | int (k : IntKind) | bool | str
  | slice (e : TypeId)
  | struct (fs : List (Nat × TypeId))
  | map (k e : TypeId)
  | array (n : Nat) (e : TypeId)
  | iface | ptr | func | other
inductive AO where
  | cells (t : TypeId) (cs : List AV)
  | row (t : TypeId) (sz : Nat) (rows : List (List D))
  | map (t : TypeId) (tk : TK) (es : List (List D × AV))

/-- own objects by their names; names from nx on are free; names below lo came in -/
structure Heap where
  objs : List (Nat × AO)
  nx : Nat
  lo : Nat
def hp0 : Heap := ⟨[], 0, 0⟩

abbrev Env := Nat → AV
def Env.put (σ : Env) (k : Nat) (v : AV) : Env := fun j => bif Nat.beq j k then v else σ j
def Env.putO (σ : Env) (n : Nat) : Option Nat → AV → Env
  | none, _ => σ
  | some k, v => bif Nat.ble (k + 1) n then σ.put k v else σ

def look {α : Type} : List (Nat × α) → Nat → Option α
  | [], _ => none
  | (k, v) :: r, j => bif Nat.beq j k then some v else look r j
def Env.of (l : List (Nat × AV)) : Env := fun j => match look l j with | some v => v | none => .any
/-- the first slots -/
def Env.args (l : List AV) : Env := fun j => match l[j]? with | some v => v | none => .any

mutual
/-- 'own i' becomes 'b', other names of block i are forgotten -/
def AV.sub (i : Nat) (b : AV) : AV → AV
  | .agg cs => .agg (AV.subL i b cs)
  | .tup cs => .tup (AV.subL i b cs)
  | .ptr id off => bif Nat.beq id i then .any else .ptr id off
  | .rptr id k sz off => bif Nat.beq id i then .any else .rptr id k sz off
  | .own id => bif Nat.beq id i then b else .own id
  | .mapr id => bif Nat.beq id i then .any else .mapr id
  | .fn f cs => .fn f (AV.subL i b cs)
  | .iface t x => .iface t (AV.sub i b x)
  | .any => .any
  | .d x => .d x
  | .nils => .nils
  | .val v => .val v
  | .at_ ds => .at_ ds
termination_by structural x => x
def AV.subL (i : Nat) (b : AV) : List AV → List AV
  | [] => []
  | c :: cs => AV.sub i b c :: AV.subL i b cs
termination_by structural x => x
end
mutual
/-- as data: a row of the call's own reads as a list -/
def AV.view (l : List (Nat × AO)) : AV → AV
  | .own id => match look l id with
    | some (.row _ _ rows) => .d (.list rows)
    | _ => .any
  | .nils => .d (.list [])
  | .agg cs => .agg (AV.viewL l cs)
  | .tup cs => .tup (AV.viewL l cs)
  | .iface t x => .iface t (AV.view l x)
  | .any => .any
  | .d x => .d x
  | .val (.bool b) => .d (.bool b)
  | .val v => .val v
  | .ptr _ _ => .any
  | .rptr _ _ _ _ => .any
  | .at_ ds => .at_ ds
  | .mapr _ => .any
  | .fn f cs => .fn f (AV.viewL l cs)
termination_by structural x => x
def AV.viewL (l : List (Nat × AO)) : List AV → List AV
  | [] => []
  | c :: cs => AV.view l c :: AV.viewL l cs
termination_by structural x => x
end
mutual
def AV.owns : AV → List Nat
  | .own id => [id]
  | .agg cs => AV.ownsL cs
  | .tup cs => AV.ownsL cs
  | .iface _ x => AV.owns x
  | .fn _ cs => AV.ownsL cs
  | .any => [] | .d _ => [] | .nils => [] | .val _ => [] | .ptr _ _ => [] | .rptr _ _ _ _ => [] | .at_ _ => [] | .mapr _ => []
termination_by structural x => x
def AV.ownsL : List AV → List Nat
  | [] => []
  | c :: cs => AV.owns c ++ AV.ownsL cs
termination_by structural x => x
end
mutual
/-- names only blocks below n -/
def AV.lt (n : Nat) : AV → Bool
  | .own id => Nat.ble (id + 1) n
  | .ptr id _ => Nat.ble (id + 1) n
  | .rptr id _ _ _ => Nat.ble (id + 1) n
  | .mapr id => Nat.ble (id + 1) n
  | .agg cs => AV.ltL n cs
  | .tup cs => AV.ltL n cs
  | .fn _ cs => AV.ltL n cs
  | .iface _ x => AV.lt n x
  | .any => true | .d _ => true | .nils => true | .val _ => true | .at_ _ => true
termination_by structural x => x
def AV.ltL (n : Nat) : List AV → Bool
  | [] => true
  | c :: cs => AV.lt n c && AV.ltL n cs
termination_by structural x => x
end
mutual
/-- rows of the call's own are forgotten -/
def AV.noOwn : AV → AV
  | .agg cs => .agg (AV.noOwnL cs)
  | .tup cs => .tup (AV.noOwnL cs)
  | .ptr id off => .ptr id off
  | .rptr _ _ _ _ => .any
  | .own _ => .any
  | .mapr id => .mapr id
  | .fn f cs => .fn f (AV.noOwnL cs)
  | .iface t x => .iface t (AV.noOwn x)
  | .any => .any
  | .d x => .d x
  | .nils => .nils
  | .val v => .val v
  | .at_ ds => .at_ ds
termination_by structural x => x
def AV.noOwnL : List AV → List AV
  | [] => []
  | c :: cs => AV.noOwn c :: AV.noOwnL cs
termination_by structural x => x
end
def subM (i : Nat) (b : AV) : List (List D × AV) → List (List D × AV)
  | [] => []
  | (k, a) :: r => (k, AV.sub i b a) :: subM i b r
def ltM (n : Nat) : List (List D × AV) → Prop
  | [] => True
  | (_, a) :: r => a.lt n = true ∧ ltM n r
def AO.sub (i : Nat) (b : AV) : AO → AO
  | .cells t cs => .cells t (AV.subL i b cs)
  | .row t sz rows => .row t sz rows
  | .map t tk es => .map t tk (subM i b es)
def subO (i : Nat) (b : AV) : List (Nat × AO) → List (Nat × AO)
  | [] => []
  | (k, o) :: r => (k, o.sub i b) :: subO i b r
def del {α : Type} (i : Nat) : List (Nat × α) → List (Nat × α)
  | [] => []
  | (k, o) :: r => bif Nat.beq k i then del i r else (k, o) :: del i r
def setO (i : Nat) (x : AO) : List (Nat × AO) → List (Nat × AO)
  | [] => []
  | (k, o) :: r => bif Nat.beq k i then (k, x) :: r else (k, o) :: setO i x r
def Env.sub (i : Nat) (b : AV) (σ : Env) : Env := fun k => AV.sub i b (σ k)
def Env.subs : List (Nat × AV) → Env → Env
  | [], σ => σ
  | (i, b) :: m, σ => Env.subs m (Env.sub i b σ)
def AV.subsL : List (Nat × AV) → List AV → List AV
  | [], as => as
  | (i, b) :: m, as => AV.subsL m (AV.subL i b as)
/-- what becomes of the slots' knowledge -/
inductive Rn where
  | sub (m : List (Nat × AV))
  | drop
def Env.ren : Rn → Env → Env
  | .sub m, σ => Env.subs m σ
  | .drop, σ => fun k => AV.noOwn (σ k)
def Heap.new (h : Heap) (o : AO) : Heap := ⟨(h.nx, o) :: h.objs, h.nx + 1, h.lo⟩
def Heap.set (h : Heap) (i : Nat) (o : AO) : Heap := ⟨setO i o h.objs, h.nx, h.lo⟩
/-- rows of the call's own become data that nobody writes -/
def pubs : List Nat → List (Nat × AO) → List (Nat × AO) × List (Nat × AV)
  | [], l => (l, [])
  | i :: is, l => match look l i with
    | some (.row _ _ rows) => match pubs is (subO i (.d (.list rows)) (del i l)) with
      | (l', m) => (l', (i, .d (.list rows)) :: m)
    | _ => pubs is l

structure TI where
  kind : TK
  size : Nat
  bytes : Nat
  zero : List AV
  meths : List (String × FuncId) := []
def TI.isAgg (t : TI) : Bool := match t.kind with | .struct _ => true | .array _ _ => true | _ => false

def cst : Value → AV
  | .int k n => .d (.int k n)
  | .string s => match s.data.toList with
    | [] => .d (.str [])
    | c :: r => bif Nat.ble (c :: r).length big then .d (.str (c :: r)) else .any
  | .slice none 0 0 => .nils
  | v => .val v
def ev (σ : Env) : Operand → AV
  | .tmp t => σ t
  | .const v => cst v
  | .func f => .fn f []
  | .global _ => .any

/-- a bool that is decided stands as '.val'; as data: -/
def norm : AV → AV
  | .val (.bool b) => .d (.bool b)
  | a => a
def pickAV (t : Bool) (a b : AV) : AV :=
  match norm a, norm b with
  | .d (.bool x), .d (.bool y) => .d (.bool (bif t then x else y))
  | a, b => bif t then a else b

def binInt (op : BinOp) (k : IntKind) (a b : Int) : Option D :=
  match op with
  | .add => some (.int k (k.wrap (a + b)))
  | .sub => some (.int k (k.wrap (a - b)))
  | .mul => some (.int k (k.wrap (a * b)))
  | .eql => some (.bool (a == b))
  | .neq => some (.bool (a != b))
  | .lss => some (.bool (decide (a < b)))
  | .leq => some (.bool (decide (a ≤ b)))
  | .gtr => some (.bool (decide (a > b)))
  | .geq => some (.bool (decide (a ≥ b)))
  | _ => none
def binStr (op : BinOp) (a b : Bs) : Option D :=
  match op with
  | .eql => some (.bool (a == b))
  | .neq => some (.bool (!(a == b)))
  | .lss => some (.bool (Op.bytesLess a b))
  | .leq => some (.bool (Op.bytesLess a b || a == b))
  | .gtr => some (.bool (!(Op.bytesLess a b || a == b)))
  | .geq => some (.bool (!(Op.bytesLess a b)))
  | _ => none
def kindEq : IntKind → IntKind → Bool
  | .i8, .i8 | .i16, .i16 | .i32, .i32 | .i64, .i64 | .u8, .u8 | .u16, .u16 | .u32, .u32 | .u64, .u64 => true
  | _, _ => false
def bin (T : List (Nat × TI)) (t : TypeId) (op : BinOp) : AV → AV → Option D
  | .d (.int k a), .d (.int k' b) => bif kindEq k k' then binInt op k a b else none
  | .d (.str a), .d (.str b) => binStr op a b
  | .d (.bool a), .d (.bool b) => match look T t with
    | some ti => match ti.kind with
      | .bool => match op with
        | .eql => some (.bool (a == b))
        | .neq => some (.bool (!(a == b)))
        | _ => none
      | _ => none
    | none => none
  | _, _ => none

def loadL (ti : TI) (cs : List AV) : Option AV :=
  bif ti.isAgg then (bif Nat.ble ti.size cs.length then some (.agg (cs.take ti.size)) else none) else cs.head?
def loadD (ti : TI) (cs : List D) : Option AV :=
  bif ti.isAgg then (bif Nat.ble ti.size cs.length then some (.agg ((cs.take ti.size).map .d)) else none) else (cs.head?).map .d
/-- a value that takes one cell -/
def AV.one : AV → Bool
  | .d _ | .nils | .ptr _ _ | .at_ _ | .rptr _ _ _ _ | .own _ | .mapr _ | .fn _ _ | .iface _ _ => true
  | .val v => v.oneCell'
  | _ => false
def oneL : List AV → Bool
  | [] => true
  | c :: cs => c.one && oneL cs
/-- the cells of a value of a type -/
def cellsOf (ti : TI) : AV → Option (List AV)
  | .agg cs => bif ti.isAgg then (bif Nat.beq cs.length ti.size && oneL cs then some cs else none) else none
  | a => bif ti.isAgg then none else bif a.one then some [a] else none
def dsOf : List AV → Option (List D)
  | [] => some []
  | .d x :: r => (dsOf r).map (x :: ·)
  | .nils :: r => (dsOf r).map (.list [] :: ·)
  | _ => none
def over (cs : List AV) (off : Nat) (new : List AV) : List AV := cs.take off ++ new ++ cs.drop (off + new.length)
def overD (cs : List D) (off : Nat) (new : List D) : List D := cs.take off ++ new ++ cs.drop (off + new.length)
def isNat : D → Option Int
  | .int _ n => some n
  | _ => none

/-- What an operation yields, where that is computed: the value, the heap, what is renamed. -/
abbrev Out := AV × Heap × Rn

/-- a list's spine is computed before one goes on -/
noncomputable def forceL {β : Type} (l : List AV) : (List AV → β) → β :=
  List.rec (motive := fun _ => (List AV → β) → β) (fun K => K []) (fun a _ ih K => ih fun l => K (a :: l)) l
theorem forceL_eq {β : Type} {l : List AV} : ∀ {K : List AV → β}, forceL l K = K l := by
  induction l with
  | nil => intro K; rfl
  | cons a l ih => intro K; exact ih (K := fun l => K (a :: l))
/-- the parts of a struct that is put together -/
noncomputable def fillA (fs : List (Nat × TypeId)) (T : List (Nat × TI)) : List AV → List (Nat × AV) → Option (List AV)
  | cs, [] => some cs
  | cs, (i, x) :: r => match fs[i]? with
    | some (off, t) => match look T t with
      | some ti => match cellsOf ti x with
        | some new => bif Nat.ble (off + new.length) cs.length then forceL (over cs off new) fun cs' => fillA fs T cs' r else none
        | none => none
      | none => none
    | none => none

/-- the places of an array's elements -/
def arrF (sz e n : Nat) : List (Nat × TypeId) := (List.range n).map fun i => (i * sz, e)
/-- the rows of a slice that is put together: its parts stand in order, all of them -/
def rowsOf (ti : TI) (l : List (Nat × AO)) : Nat → List (Nat × AV) → Option (List (List D))
  | _, [] => some []
  | n, (i, x) :: r => bif Nat.beq i n then match cellsOf ti (x.view l) with
      | some cs => match dsOf cs with
        | some ds => (rowsOf ti l (n + 1) r).map (ds :: ·)
        | none => none
      | none => none
    else none

noncomputable def opFun (T : List (Nat × TI)) (ρ : Operand → AV) (h : Heap) : Op → Option Out
  | .move x => some (ρ x, h, .sub [])
  | .assign x => some (ρ x, h, .sub [])
  | .pick c a b => match ρ c with
    | .d (.bool t) => some (pickAV t (ρ a) (ρ b), h, .sub [])
    | .val (.bool t) => some (bif t then ρ a else ρ b, h, .sub [])
    | _ => none
  | .box t x => match look T t with
    | some ti => match cellsOf ti (ρ x) with
      | some cs => some (.ptr h.nx 0, h.new (.cells t cs), .sub [])
      | none => none
    | none => none
  | .alloc t => match look T t with
    | some ti => some (.ptr h.nx 0, h.new (.cells t ti.zero), .sub [])
    | none => none
  | .build t parts => match look T t with
    | some ti => match ti.kind with
      | .struct fs => bif fs.all (fun p => (look T p.2).isSome) then (fillA fs T ti.zero (parts.toList.map fun p => (p.1, ρ p.2))).map fun cs => (.agg cs, h, .sub []) else none
      | .array n e => match look T e with
        | some te => (fillA (arrF te.size e n) T ti.zero (parts.toList.map fun p => (p.1, ρ p.2))).map fun cs => (.agg cs, h, .sub [])
        | none => none
      | _ => none
    | none => none
  | .buildSlice t len parts => match look T t with
    | some ti => match ti.kind with
      | .slice e => match look T e with
        | some te => bif Nat.beq len 0 then (bif Nat.ble 1 te.size && parts.toList.isEmpty then some (.own h.nx, h.new (.row e te.size []), .sub []) else none)
          else (bif Nat.beq parts.toList.length len && Nat.ble (len * te.size) 16777216 && Nat.ble 1 te.size then match rowsOf te h.objs 0 (parts.toList.map fun p => (p.1, ρ p.2)) with
            | some rows => match pubs (AV.ownsL (parts.toList.map fun p => ρ p.2)) h.objs with
              | (l, m) => some (.d (.list rows), ⟨l, h.nx, h.lo⟩, .sub m)
            | none => none else none)
        | none => none
      | _ => none
    | none => none
  | .load t a => match look T t with
    | some ti => match ρ a with
      | .ptr id off => match look h.objs id with
        | some (.cells _ cs) => (loadL ti (cs.drop off)).map (·, h, .sub [])
        | _ => none
      | .at_ ds => (loadD ti ds).map (·, h, .sub [])
      | .rptr id i sz off => match look h.objs id with
        | some (.row _ sz' rows) => bif Nat.beq sz sz' then (match rows[i]? with
          | some r => (loadD ti (r.drop off)).map (·, h, .sub [])
          | none => none) else none
        | _ => none
      | _ => none
    | none => none
  | .fieldAddr s x f => match look T s with
    | some ti => match ti.kind with
      | .struct fs => match fs[f]? with
        | some (off, t) => match look T t with
          | some tf => bif Nat.beq tf.size 0 then none else match ρ x with
            | .ptr id o => some (.ptr id (o + off), h, .sub [])
            | .at_ ds => match ds.drop off with
              | [] => none
              | x :: r => some (.at_ (x :: r), h, .sub [])
            | .rptr id i sz o => some (.rptr id i sz (o + off), h, .sub [])
            | _ => none
          | none => none
        | none => none
      | _ => none
    | none => none
  | .field s x f => match look T s with
    | some ti => match ti.kind with
      | .struct fs => match fs[f]? with
        | some (off, t) => match look T t, ρ x with
          | some tf, .agg cs => (loadL tf (cs.drop off)).map (·, h, .sub [])
          | _, _ => none
        | none => none
      | _ => none
    | none => none
  | .binOp op t x y _ => (bin T t op (norm (ρ x)) (norm (ρ y))).map (.d ·, h, .sub [])
  | .unOp .not _ x => match ρ x with
    | .d (.bool b) => some (.d (.bool (!b)), h, .sub [])
    | .val (.bool b) => some (.val (.bool (!b)), h, .sub [])
    | _ => none
  | .extract x i => match ρ x with
    | .tup vs => (vs[i]?).map (·, h, .sub [])
    | _ => none
  | .makeFunc (.func f) first caps => bif first.toList.isEmpty then some (.fn f (caps.toList.map ρ), h, .sub []) else none
  | .makeInterface t x => match look T t with
    | some ti => match ti.kind with
      | .iface => none
      | _ => some (.iface t (ρ x), h, .sub [])
    | none => none
  | .makeMap t r => match look T t, r with
    | some ti, none => match ti.kind with
      | .map kt _ => match look T kt with
        | some tk => some (.mapr h.nx, h.new (.map t tk.kind []), .sub [])
        | none => none
      | _ => none
    | _, _ => none
  | .convert src dst x => match look T src, look T dst with
    | some _, some ti => match ti.kind, ρ x with
      | .int k, .d (.int _ n) => some (.d (.int k (k.wrap n)), h, .sub [])
      | _, _ => none
    | _, _ => none
  | _ => none

def AV.scalar : AV → Bool
  | .d (.int _ _) => true
  | .d (.bool _) => true
  | .d (.str _) => true
  | _ => false

/-- WHAT A CONTRACT SAYS (its meaning is given in the next text). -/
structure Specs where
  pure : FuncId → List AV → AV → Prop
  heap : FuncId → List AV → Heap → AV → Heap → Prop

/-- keys of maps -/
def keyEq : List D → List D → Bool
  | [.int k a], [.int k' b] => kindEq k k' && a == b
  | [.str a], [.str b] => a == b
  | [.bool a], [.bool b] => a == b
  | _, _ => false
def keyOk : TK → List D → Bool
  | .int k, [.int k' _] => kindEq k k'
  | .str, [.str _] => true
  | .bool, [.bool _] => true
  | _, _ => false
def mapLook : List (List D × AV) → List D → Option AV
  | [], _ => none
  | (k', a) :: r, k => match keyEq k k' with
    | true => some a
    | false => mapLook r k
def mapPut : List (List D × AV) → List D → AV → List (List D × AV)
  | [], k, v => [(k, v)]
  | (k', a) :: r, k, v => match keyEq k k' with
    | true => (k', v) :: r
    | false => (k', a) :: mapPut r k v
def zeroOf (ti : TI) : AV := bif ti.isAgg then .agg ti.zero else match ti.zero with | a :: _ => a | [] => .any

def vcCall (S : Specs) (f : FuncId) (args : List AV) (h : Heap) (K : AV → Heap → Rn → Prop) : Prop :=
  (∃ r, S.pure f (AV.viewL h.objs args) r ∧
    match AV.scalar r with
    | true => K r h (.sub [])
    | false => match pubs (AV.ownsL args) h.objs with
      | (l, m) => K r ⟨l, h.nx, h.lo⟩ (.sub m)) ∨
  (∃ r h', S.heap f args h r h' ∧ K r h' .drop) ∨
  ∃ r h', (match pubs (AV.ownsL args) h.objs with | (l, m) => S.heap f (AV.subsL m args) ⟨l, h.nx, h.lo⟩ r h') ∧ K r h' .drop

def vcLen (k : TK) (h : Heap) (x : AV) (K : AV → Heap → Rn → Prop) : Prop :=
  match k, x with
  | .str, .d (.str s) => K (.d (.int .i64 s.length)) h (.sub [])
  | .slice _, .d (.list s) => K (.d (.int .i64 s.length)) h (.sub [])
  | .slice _, .nils => K (.d (.int .i64 0)) h (.sub [])
  | .slice _, .own id => match look h.objs id with
    | some (.row _ _ rows) => K (.d (.int .i64 rows.length)) h (.sub [])
    | _ => False
  | _, _ => False
/-- the elements that are appended -/
def addRows (l : List (Nat × AO)) : AV → Option (List (List D))
  | .d (.list rows) => some rows
  | .nils => some []
  | .own id => match look l id with
    | some (.row _ _ rows) => some rows
    | _ => none
  | _ => none
def vcAppend (T : List (Nat × TI)) (h : Heap) (t t2 : TypeId) (s x : AV) (K : AV → Heap → Rn → Prop) : Prop :=
  match look T t, addRows h.objs x with
  | some ti, some new => match ti.kind with
    | .slice e => match look T e with
      | some te => (Nat.beq t t2 && Nat.ble te.bytes 131072 && Nat.ble 1 te.size) = true ∧ (∀ r ∈ new, r.length = te.size) ∧ match s with
        | .own id => match look h.objs id with
          | some (.row e' sz rows) => (Nat.beq e e' && Nat.beq sz te.size) = true ∧ rows.length + new.length ≤ big ∧
              K (.own id) ⟨setO id (.row e sz (rows ++ new)) (subO id .any h.objs), h.nx, h.lo⟩ (.sub [(id, .any)])
          | _ => False
        | .nils => new.length ≤ big ∧ K (.own h.nx) (h.new (.row e te.size new)) (.sub [])
        | _ => False
      | none => False
    | _ => False
  | _, _ => False

def vcPut (T : List (Nat × TI)) (ρ : Operand → AV) (h : Heap) (t : TypeId) (x k v : Operand) (K : AV → Heap → Rn → Prop) : Prop :=
  match look T t with
  | some ti => match ti.kind with
    | .map kt _ => match look T kt, ρ x, norm (ρ k) with
      | some tk, .mapr id, .d key => match look h.objs id with
        | some (.map t' tk' es) => (Nat.beq t t' && keyOk tk.kind [key] && keyOk tk' [key] && (ρ v).one) = true ∧ K (.val undef) (h.set id (.map t' tk' (mapPut es [key] (ρ v)))) (.sub [])
        | _ => False
      | _, _, _ => False
    | _ => False
  | none => False

/-- a row's place, read -/
def rowGet (l : List (Nat × AO)) (id sz i : Nat) : Option (List D) := match look l id with
  | some (.row _ sz' rows) => bif Nat.beq sz sz' then rows[i]? else none
  | _ => none
noncomputable def vcOp (T : List (Nat × TI)) (S : Specs) (ρ : Operand → AV) (h : Heap) (o : Op) (K : AV → Heap → Rn → Prop) : Prop :=
  match o with
  | .call c => match c.callee with
    | .value f => match ρ f with
      | .fn f caps => vcCall S f (c.args.toList.map ρ ++ caps) h K
      | _ => False
    | .invoke x name => match ρ x with
      | .iface t v => match look T t with
        | some ti => match ti.kind with
          | .ptr => False
          | _ => match ti.meths.lookup name with
            | some f => vcCall S f (v :: c.args.toList.map ρ) h K
            | none => False
        | none => False
      | _ => False
    | .builtin .len => match c.args.toList, c.argTypes.toList with
      | [x], [t] => match look T t with
        | some ti => vcLen ti.kind h (ρ x) K
        | none => False
      | _, _ => False
    | .builtin .append => match c.args.toList, c.argTypes.toList with
      | [s, x], [t, t2] => vcAppend T h t t2 (ρ s) (ρ x) K
      | _, _ => False
    | _ => False
  | .index t x i => match look T t with
    | some ti => match ti.kind, ρ x, ρ i with
      | .str, .d (.str s), .d (.int _ i) => 0 ≤ i ∧ ∃ b, s[i.toNat]? = some b ∧ K (.d (.int .u8 b.toNat)) h (.sub [])
      | .array n e, .agg cs, .d (.int _ i) => (0 ≤ i ∧ i < n) ∧ match look T e with
        | some te => ∃ r, loadL te (cs.drop (i.toNat * te.size)) = some r ∧ K r h (.sub [])
        | none => False
      | _, _, _ => False
    | none => False
  | .indexAddr t x i => match look T t with
    | some ti => match ti.kind with
      | .slice e => match look T e with
        | some te => Nat.ble 1 te.size = true ∧ match ρ x, ρ i with
          | .d (.list s), .d (.int _ i) => 0 ≤ i ∧ ∃ b, s[i.toNat]? = some b ∧ b.length = te.size ∧ K (.at_ b) h (.sub [])
          | .own id, .d (.int _ i) => match look h.objs id with
            | some (.row _ sz rows) => Nat.beq sz te.size = true ∧ 0 ≤ i ∧ i < rows.length ∧ K (.rptr id i.toNat sz 0) h (.sub [])
            | _ => False
          | _, _ => False
        | none => False
      | _ => False
    | none => False
  | .store t a x => match look T t with
    | some ti => match cellsOf ti (ρ x), ρ a with
      | some new, .ptr id off => match look h.objs id with
        | some (.cells t' cs) => Nat.ble (off + new.length) cs.length = true ∧ K (.val undef) (h.set id (.cells t' (over cs off new))) (.sub [])
        | _ => False
      | some new, .rptr id i sz' off => match look h.objs id, dsOf (new.map norm) with
        | some (.row e sz rows), some ds => Nat.beq sz' sz = true ∧ ∃ r, rows[i]? = some r ∧ off + ds.length ≤ r.length ∧ K (.val undef) (h.set id (.row e sz (rows.set i (overD r off ds)))) (.sub [])
        | _, _ => False
      | _, _ => False
    | none => False
  | .makeSlice t len cap => match look T t with
    | some ti => match ti.kind with
      | .slice e => match look T e with
        | some te => match dsOf te.zero, ρ len, ρ cap with
          | some z, .d (.int .i64 l), .d (.int .i64 c) => (Nat.ble te.bytes 131072 && Nat.ble 1 te.size && Nat.beq z.length te.size) = true ∧ 0 ≤ l ∧ l ≤ c ∧ c ≤ big ∧ K (.own h.nx) (h.new (.row e te.size (List.replicate l.toNat z))) (.sub [])
          | _, _, _ => False
        | none => False
      | _ => False
    | none => False
  | .lookup t x k ok => match look T t with
    | some ti => match ti.kind with
      | .map kt vt => match look T kt, look T vt, ρ x, norm (ρ k) with
        | some tk, some tv, .mapr id, .d key => match look h.objs id with
          | some (.map t' tk' es) => (Nat.beq t t' && keyOk tk.kind [key] && keyOk tk' [key]) = true ∧ ∃ r, mapLook es [key] = r ∧ match r with
            | some v => K (match ok with | true => .tup [v, .val (.bool true)] | false => v) h (.sub [])
            | none => K (match ok with | true => .tup [zeroOf tv, .val (.bool false)] | false => zeroOf tv) h (.sub [])
          | _ => False
        | _, _, _, _ => False
      | _ => False
    | none => False
  | .load t a => match ρ a with
    | .rptr id i sz off => ∃ r, rowGet h.objs id sz i = some r ∧ match look T t with
      | some ti => match loadD ti (r.drop off) with
        | some v => K v h (.sub [])
        | none => False
      | none => False
    | _ => match opFun T ρ h (.load t a) with
      | some (r, h', m) => K r h' m
      | none => False
  | .mapUpdate t x k v => vcPut T ρ h t x k v K
  | .insert t x k v => vcPut T ρ h t x k v K
  | o => match opFun T ρ h o with
    | some (r, h', m) => K r h' m
    | none => False

theorem load_iff {T : List (Nat × TI)} {S : Specs} {ρ : Operand → AV} {h : Heap} {t : TypeId} {a : Operand} {K : AV → Heap → Rn → Prop} :
    vcOp T S ρ h (.load t a) K ↔ match opFun T ρ h (.load t a) with | some (r, h', m) => K r h' m | none => False := by
  simp only [vcOp]
  split
  · rename_i id i sz off e
    simp only [opFun, e, rowGet]
    cases look T t with
    | none => simp
    | some ti =>
      cases look h.objs id with
      | none => simp
      | some o =>
        cases o with
        | row t' sz' rows =>
          cases hb : Nat.beq sz sz' with
          | false => simp [hb]
          | true =>
            simp only [hb, cond_true]
            cases rows[i]? with
            | none => simp
            | some r =>
              simp only [Option.some.injEq, exists_eq_left']
              cases loadD ti (r.drop off) <;> simp
        | cells _ _ => simp
        | map _ _ _ => simp
  · exact Iff.rfl
/-- the value is computed before one goes on -/
def forceV (r : AV) (K : AV → Prop) : Prop := match r with
  | .any => K .any
  | .d x => K (.d x)
  | .nils => K .nils
  | .val v => K (.val v)
  | .agg cs => K (.agg cs)
  | .tup vs => K (.tup vs)
  | .ptr id off => K (.ptr id off)
  | .at_ ds => K (.at_ ds)
  | .rptr id i sz off => K (.rptr id i sz off)
  | .own id => K (.own id)
  | .mapr id => K (.mapr id)
  | .fn f cs => K (.fn f cs)
  | .iface t x => K (.iface t x)
theorem forceV_iff {r : AV} {K : AV → Prop} : forceV r K ↔ K r := by cases r <;> exact Iff.rfl
def putK (σ : Env) (m : Rn) (n : Nat) (d : Option Nat) (r : AV) (K : Env → Prop) : Prop := match m with
  | .sub [] => match d with
    | none => K σ
    | some k => match Nat.ble (k + 1) n with
      | true => forceV r fun r => K (σ.put k r)
      | false => K σ
  | .sub ((i, b) :: l) => forceV r fun r => K ((σ.ren (.sub ((i, b) :: l))).putO n d r)
  | .drop => forceV r fun r => K ((σ.ren .drop).putO n d r)
theorem putK_iff {σ : Env} {m : Rn} {n : Nat} {d : Option Nat} {r : AV} {K : Env → Prop} : putK σ m n d r K ↔ K ((σ.ren m).putO n d r) := by
  unfold putK
  split
  · cases d with
    | none => exact Iff.rfl
    | some k =>
      simp only [Env.ren, Env.subs, Env.putO]
      cases Nat.ble (k + 1) n
      · exact Iff.rfl
      · exact forceV_iff
  · exact forceV_iff
  · exact forceV_iff

noncomputable def forceCs (l : List AV) : (List AV → Prop) → Prop :=
  List.rec (motive := fun _ => (List AV → Prop) → Prop) (fun K => K []) (fun a _ ih K => forceV a fun a => ih fun l => K (a :: l)) l
theorem forceCs_iff {l : List AV} : ∀ {K : List AV → Prop}, forceCs l K ↔ K l := by
  induction l with
  | nil => exact Iff.rfl
  | cons a l ih => intro K; exact (forceV_iff (K := fun a => forceCs l fun l => K (a :: l))).trans (ih (K := fun l => K (a :: l)))
noncomputable def forceOne (o : AO) (K : AO → Prop) : Prop := match o with
  | .cells t cs => forceCs cs fun cs => K (.cells t cs)
  | .row t sz rows => K (.row t sz rows)
  | .map t tk es => K (.map t tk es)
theorem forceOne_iff {o : AO} {K : AO → Prop} : forceOne o K ↔ K o := by
  cases o with
  | cells t cs => exact forceCs_iff
  | row t sz rows => exact Iff.rfl
  | map t tk es => exact Iff.rfl
noncomputable def forceOs (l : List (Nat × AO)) : (List (Nat × AO) → Prop) → Prop :=
  List.rec (motive := fun _ => (List (Nat × AO) → Prop) → Prop) (fun K => K []) (fun p _ ih K => match p with | (k, o) => forceOne o fun o => ih fun l => K ((k, o) :: l)) l
theorem forceOs_iff {l : List (Nat × AO)} : ∀ {K : List (Nat × AO) → Prop}, forceOs l K ↔ K l := by
  induction l with
  | nil => exact Iff.rfl
  | cons p l ih => obtain ⟨k, o⟩ := p; intro K; exact (forceOne_iff (K := fun o => forceOs l fun l => K ((k, o) :: l))).trans (ih (K := fun l => K ((k, o) :: l)))
noncomputable def forceH (h : Heap) (K : Heap → Prop) : Prop := match h with | ⟨objs, nx, lo⟩ => forceOs objs fun objs => K ⟨objs, nx, lo⟩
/-- where an operation turned the heap, its spine is computed -/
noncomputable def heapK (o : Op) (h : Heap) (K : Heap → Prop) : Prop := match o with
  | .store _ _ _ => forceH h K
  | .box _ _ => forceH h K
  | .alloc _ => forceH h K
  | .makeMap _ _ => forceH h K
  | .makeSlice _ _ _ => forceH h K
  | .mapUpdate _ _ _ _ => forceH h K
  | .insert _ _ _ _ => forceH h K
  | _ => K h
theorem heapK_iff {o : Op} {h : Heap} {K : Heap → Prop} : heapK o h K ↔ K h := by
  unfold heapK
  split <;> first | exact Iff.rfl | exact forceOs_iff

/-- a guard that is not decided -/
def br : Bool → Bool → Prop → Prop → Prop
  | true, b, A, B => (b = true → A) ∧ (b = false → B)
  | false, b, A, B => (b = false → A) ∧ (b = true → B)
noncomputable def vcOpsStep (T : List (Nat × TI)) (S : Specs) (n : Nat) (ops : Array Oper) (o : Oper) (ih : Env → Heap → (Env → Heap → Prop) → Prop) (σ : Env) (h : Heap) (K : Env → Heap → Prop) : Prop :=
  match o.guard with
  | none => vcOp T S (ev σ) h o.op fun r h' m => putK σ m n o.dst r fun σ' => heapK o.op h' fun h'' => ih σ' h'' K
  | some (g, want) => match (ops[g]?).bind (·.dst) with
    | none => False
    | some gd => match σ gd with
      | .d (.bool b) =>
        br want b (vcOp T S (ev (σ.put gd (.val (.bool want)))) h o.op fun r h' m => putK (σ.put gd (.val (.bool want))) m n o.dst r fun σ' => heapK o.op h' fun h'' => ih σ' h'' K)
          (ih ((σ.put gd (.val (.bool (!want)))).putO n o.dst (.val undef)) h K)
      | .val (.bool b) => match b == want with
        | true => vcOp T S (ev σ) h o.op fun r h' m => putK σ m n o.dst r fun σ' => heapK o.op h' fun h'' => ih σ' h'' K
        | false => ih (σ.putO n o.dst (.val undef)) h K
      | .val (.tuple _) => ih (σ.putO n o.dst (.val undef)) h K
      | _ => False
/-- Written with the recursor itself: so the kernel and the elaborator come to the very same terms. -/
noncomputable def vcOps (T : List (Nat × TI)) (S : Specs) (n : Nat) (ops : Array Oper) (l : List Oper) : Env → Heap → (Env → Heap → Prop) → Prop :=
  List.rec (motive := fun _ => Env → Heap → (Env → Heap → Prop) → Prop) (fun σ h K => K σ h) (fun o _ ih => vcOpsStep T S n ops o ih) l
theorem vcOps_cons {T : List (Nat × TI)} {S : Specs} {n : Nat} {ops : Array Oper} {o : Oper} {l : List Oper} {σ : Env} {h : Heap} {K : Env → Heap → Prop} : vcOps T S n ops (o :: l) σ h K = vcOpsStep T S n ops o (vcOps T S n ops l) σ h K := rfl

/-- In a region that draws its order: no operation turns the heap. -/
def remD : Option Nat → List (Nat × Bool) → List (Nat × Bool)
  | none, l => l
  | some d, l => del d l
/-- 'dec': which guards are decided -/
noncomputable def vcPureStep (T : List (Nat × TI)) (S : Specs) (n : Nat) (ops : Array Oper) (o : Oper) (ih : List (Nat × Bool) → Env → Heap → (Env → Prop) → Prop) (dec : List (Nat × Bool)) (σ : Env) (h : Heap) (K : Env → Prop) : Prop :=
  match o.guard with
  | none => vcOp T S (ev σ) h o.op fun r h' m => h' = h ∧ m = .sub [] ∧ putK σ (.sub []) n o.dst r fun σ' => ih (remD o.dst dec) σ' h K
  | some (g, want) => match (ops[g]?).bind (·.dst) with
    | none => False
    | some gd => match look dec gd with
      | some b => match b == want with
        | true => vcOp T S (ev σ) h o.op fun r h' m => h' = h ∧ m = .sub [] ∧ putK σ (.sub []) n o.dst r fun σ' => ih (remD o.dst dec) σ' h K
        | false => ih (remD o.dst dec) (σ.putO n o.dst (.val undef)) h K
      | none => match σ gd with
        | .d (.bool b) =>
          br want b (vcOp T S (ev (σ.put gd (.d (.bool want)))) h o.op fun r h' m => h' = h ∧ m = .sub [] ∧ putK (σ.put gd (.d (.bool want))) (.sub []) n o.dst r fun σ' => ih (remD o.dst ((gd, want) :: dec)) σ' h K)
            (ih (remD o.dst ((gd, !want) :: dec)) ((σ.put gd (.d (.bool (!want)))).putO n o.dst (.val undef)) h K)
        | .val (.bool b) => match b == want with
          | true => vcOp T S (ev σ) h o.op fun r h' m => h' = h ∧ m = .sub [] ∧ putK σ (.sub []) n o.dst r fun σ' => ih (remD o.dst dec) σ' h K
          | false => ih (remD o.dst dec) (σ.putO n o.dst (.val undef)) h K
        | .val (.tuple _) => ih (remD o.dst dec) (σ.putO n o.dst (.val undef)) h K
        | _ => False
noncomputable def vcPure (T : List (Nat × TI)) (S : Specs) (n : Nat) (ops : Array Oper) (l : List Oper) : List (Nat × Bool) → Env → Heap → (Env → Prop) → Prop :=
  List.rec (motive := fun _ => List (Nat × Bool) → Env → Heap → (Env → Prop) → Prop) (fun _ σ _ K => K σ) (fun o _ ih => vcPureStep T S n ops o ih) l
theorem vcPure_cons' {T : List (Nat × TI)} {S : Specs} {n : Nat} {ops : Array Oper} {o : Oper} {l : List Oper} {dec : List (Nat × Bool)} {σ : Env} {h : Heap} {K : Env → Prop} : vcPure T S n ops (o :: l) dec σ h K = vcPureStep T S n ops o (vcPure T S n ops l) dec σ h K := rfl

/-- weaker knowledge -/
def leE : List (Nat × AV) → Env → Prop
  | [], _ => True
  | (k, v) :: l, σ => (match v with | .d (.bool _) => norm (σ k) = v | v => σ k = v) ∧ leE l σ
def ltE (n : Nat) : List (Nat × AV) → Bool
  | [] => true
  | (_, v) :: l => v.lt n && ltE n l
def leO : List (Nat × AO) → List (Nat × AO) → Prop
  | [], _ => True
  | (k, o) :: l, l' => look l' k = some o ∧ leO l l'
def ltO (n : Nat) : List (Nat × AO) → Prop
  | [] => True
  | (k, .cells _ cs) :: l => (Nat.ble (k + 1) n && AV.ltL n cs) = true ∧ ltO n l
  | (k, .row _ _ _) :: l => Nat.ble (k + 1) n = true ∧ ltO n l
  | (k, .map _ _ es) :: l => (Nat.ble (k + 1) n = true ∧ ltM n es) ∧ ltO n l
/-- The knowledge (l, h') follows from (σ, h): what a loop's invariant keeps. -/
def Weak (σ : Env) (h : Heap) (l : List (Nat × AV)) (h' : Heap) : Prop :=
  (Nat.ble h'.nx h.nx && Nat.beq h'.lo h.lo && Nat.ble h'.lo h'.nx) = true ∧ ltE h'.nx l = true ∧ leE l σ ∧ ltO h'.nx h'.objs ∧ leO h'.objs h.objs

abbrev VcT := Env → Heap → (Exit → Env → Heap → Prop) → Prop
def thenK (b : VcT) (Q : Exit → Env → Heap → Prop) (e : Exit) (σ : Env) (h : Heap) : Prop := match e with
  | .normal => b σ h Q
  | e => Q e σ h
def blockK (id : Nat) (Q : Exit → Env → Heap → Prop) (e : Exit) (σ : Env) (h : Heap) : Prop := match e with
  | .exit id' => bif Nat.beq id' id then Q .normal σ h else Q (.exit id') σ h
  | e => Q e σ h
def roundK (I : Nat → List (Nat × AV) → Heap → Prop) (k : Nat) (Q : Exit → Env → Heap → Prop) (e : Exit) (σ : Env) (h : Heap) : Prop := match e with
  | .normal => ∃ k' l' h'', I k' l' h'' ∧ k' < k ∧ Weak σ h l' h''
  | e => Q e σ h
def vcRegion (T : List (Nat × TI)) (S : Specs) (n : Nat) (ops : Array Oper) (draw : Bool) (σ : Env) (h : Heap) (Q : Exit → Env → Heap → Prop) : Prop := match draw with
  | false => vcOps T S n ops ops.toList σ h (Q .normal)
  | true => Region.lexB .any ops = true ∧ vcPure T S n ops ops.toList [] σ h (fun σ' => Q .normal σ' h)
def vcCond (c : Operand) (t e : VcT) (σ : Env) (h : Heap) (Q : Exit → Env → Heap → Prop) : Prop := match ev σ c with
  | .d (.bool b) => (b = true → t σ h Q) ∧ (b = false → e σ h Q)
  | .val (.bool b) => match b with
    | true => t σ h Q
    | false => e σ h Q
  | _ => False
def vcLoop (c : VcT) (σ : Env) (h : Heap) (Q : Exit → Env → Heap → Prop) : Prop :=
  ∃ I : Nat → List (Nat × AV) → Heap → Prop, (∃ k l h', I k l h' ∧ Weak σ h l h') ∧ ∀ k l h1, I k l h1 → c (Env.of l) h1 (roundK I k Q)
noncomputable def vc (T : List (Nat × TI)) (S : Specs) (n : Nat) (c : Code) : VcT :=
  Code.rec (motive := fun _ => VcT) (skip := fun σ h Q => Q .normal σ h) (region := fun _ ops draw => vcRegion T S n ops draw)
    (seq := fun _ _ iha ihb σ h Q => iha σ h (thenK ihb Q)) (cond := fun c _ _ t e => vcCond c t e)
    (block := fun id _ ih σ h Q => ih σ h (blockK id Q)) (loop := fun _ ih => vcLoop ih)
    (rangeFunc := fun _ _ _ _ _ _ _ _ _ => False) (exit := fun id σ h Q => Q (.exit id) σ h) (scope := fun _ _ _ _ _ => False) (label := fun _ _ _ _ => False) (goto := fun _ _ _ _ => False)
    (ret := fun σ h Q => Q .ret σ h) (refuse := fun _ _ _ _ => False) c
end Go.Vc
