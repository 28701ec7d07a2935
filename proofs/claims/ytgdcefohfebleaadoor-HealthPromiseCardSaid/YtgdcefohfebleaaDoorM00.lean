/-
  Proved here, step by step for the theorem UW: Abstract values, abstract blocks, and a condition 'vc' computed from a function's code: definitions alone.
  Conditions: those that stand in each theorem.
-/
import GoSem.Step
import Derived.Calls
import Derived.Orders
/- Abstract values, abstract blocks, and a condition 'vc' computed from a function's code: definitions alone. -/
namespace Go.Proofs.YtgdcefohfebleaaDoor.V
open Go

/-- Data that is only read: a value of one cell, or a slice by its content. -/
inductive DV where
  | v (x : Value)
  | ints (k : IntKind) (l : List Int)
  | bools (l : List Bool)
  | strs (l : List ByteArray)
  | gen (k n : Nat) (el : Nat → Nat → DV)
  | fn (i : Option Nat) (g : FuncId) (n : Nat) (caps : Nat → DV)
  | ep (m : Nat) (f : Nat → DV)

def DV.len : DV → Nat
  | .v _ => 0
  | .fn _ _ _ _ => 0
  | .ep _ _ => 0
  | .ints _ l => l.length
  | .bools l => l.length
  | .strs l => l.length
  | .gen _ n _ => n
def DV.width : DV → Nat
  | .gen k _ _ => k
  | _ => 1
def DV.cell : DV → Nat → Nat → DV
  | .v _, _, _ => .v undef
  | .fn _ _ _ _, _, _ => .v undef
  | .ep _ _, _, _ => .v undef
  | .ints k l, i, _ => .v (.int k (l.getD i 0))
  | .bools l, i, _ => .v (.bool (l.getD i false))
  | .strs l, i, _ => .v (.string (l.getD i ByteArray.empty))
  | .gen _ _ el, i, j => el i j
def DV.isSl : DV → Bool
  | .v _ => false
  | .fn _ _ _ _ => false
  | .ep _ _ => false
  | _ => true

/-- What a slot holds: d: data; ep: the address of m cells that are only read; bp: cell j of box b; rp: cell j of element i (of k cells) of row b;
own: row b from its head, n long; seg: n elements of row b from off on; full: a slice without spare places; agg: a struct, cell by cell; fn: a function with what it captured; clo: one whose behaviour is number i of the context's; yl: the yield of the loop over a function whose record is block k, with the slots that its rounds begin with. -/
inductive AV where
  | top
  | d (x : DV)
  | ep (m : Nat) (f : Nat → DV)
  | bp (b j : Nat)
  | rp (b k i j : Nat)
  | own (b n : Nat)
  | seg (b k off n : Nat)
  | full (x : DV)
  | agg (l : List AV)
  | fn (g : FuncId) (caps : List AV)
  | clo (i : Nat) (g : FuncId) (caps : List AV)
  | yl (k : Nat) (T : List Value) (caps : List AV)
  | tup (l : List AV)

/-- A block of the call's own: cells, or a row of type e whose first elements are told, or the record of a loop over a function. -/
inductive ABlk where
  | gone
  | box (cs : List AV)
  | row (e : TypeId) (r : DV)
  | lp (r : Loop)

abbrev TM := List (Nat × AV)
abbrev MM := List (Nat × ABlk)

/-- A condition that evaluation does not look into. -/
structure Ob (p : Prop) : Prop where
  out : p

/-- What is known of a type: its kind (0: one cell; 1: a struct; 2: an array; 3: a slice; 4: a string; 5: a bool); its cells; whether it is an aggregate; its zero value's cells; its bytes; its fields' offsets, sizes and whether they are aggregates; its element type. -/
structure TI where
  kind : Nat
  cells : Nat
  agg : Bool
  zero : List Value
  bytes : Nat
  offs : List (Nat × Nat × Bool)
  elem : TypeId

/-- A loop's relation: the slots and blocks that change, over parameters; where it begins; a measure. nils: slots with a nil slice that become (empty) rows of their own ahead of the loop: slot, key, element type, the empty content. bnils: the same of a box's cell: box, cell, key, element type, content. -/
structure LAnn where
  ι : Type
  nils : List (Nat × Nat × TypeId × DV)
  vars : ι → TM
  mem : ι → MM
  inv : ι → Prop
  init : ι
  meas : ι → Nat
  bnils : List (Nat × Nat × Nat × TypeId × DV) := []

/-- What a call does, as a transformer of conditions. lend: it reads what it is handed, its result leads to no memory. data: what it is handed becomes data for good; its result and new blocks are told, under the keys 0, 1, ..
heap: it works on the blocks that its arguments lead to, under the keys hk, hk + 1, .. view: it looks into no block and writes none; its result may lead to those blocks. mix: heap, but whole rows that it is handed become data for good. -/
inductive SpecE where
  | lend (C : List AV → (AV → Prop) → Prop)
  | data (C : List AV → (MM → AV → Prop) → Prop)
  | heap (C : List AV → MM → (MM → AV → Prop) → Prop)
  | view (C : List AV → (AV → Prop) → Prop)
  | mix (C : List AV → MM → (MM → AV → Prop) → Prop)

/-- In which order a region's operations are looked at: one that can be moved ahead of all others; or each that may come next. -/
inductive Plan where
  | done
  | take (i : Nat) (p : Plan)
  | alt (i : Nat) (p q : Plan)

structure Cx where
  nt : Nat
  tb : TypeId → Option TI
  ann : Nat → Option LAnn
  sp : FuncId → Option SpecE
  fs : Nat → Option (FuncId × SpecE)
  gl : Nat → Option (Nat × (Nat → DV))
  wm : Nat → Bool
  eqt : TypeId → Bool
  nk : Nat → List Nat
  plan : Nat → Option Plan
  ys : Option (List AV → MM → (MM → AV → Prop) → Prop) := none
  rf : Option (Nat × List Nat) := none
  cm : Nat → Bool := fun _ => false

/-- Keys from here on are of blocks that were handed in. -/
def hk : Nat := 1048576

/-! ### looking up -/
def lkT (t : Nat) : TM → AV
  | [] => .top
  | (u, a) :: r => bif Nat.beq t u then a else lkT t r
def lkK (t : Nat) : TM → (AV → Prop) → Prop
  | [], K => K .top
  | (u, a) :: r, K => bif Nat.beq t u then K a else lkK t r K
def lkM (t : Nat) : MM → ABlk
  | [] => .gone
  | (u, a) :: r => bif Nat.beq t u then a else lkM t r
def getK (t : Nat) : MM → (ABlk → Prop) → Prop
  | [], K => K .gone
  | (u, a) :: r, K => bif Nat.beq t u then K a else getK t r K
def setM (b : Nat) (x : ABlk) : MM → MM
  | [] => [(b, x)]
  | (u, y) :: r => bif Nat.beq b u then (u, x) :: r else (u, y) :: setM b x r
def setK (b : Nat) (x : ABlk) : MM → (MM → Prop) → Prop
  | [], K => K [(b, x)]
  | (u, y) :: r, K => bif Nat.beq b u then K ((u, x) :: r) else setK b x r fun r' => K ((u, y) :: r')

def dvs : List Value → List AV
  | [] => []
  | x :: r => .d (.v x) :: dvs r
def dvsK : List Value → (List AV → Prop) → Prop
  | [], K => K []
  | x :: r, K => dvsK r fun l => K (.d (.v x) :: l)
def onesB : List Value → Bool
  | [] => true
  | .agg _ :: _ => false
  | .tuple _ :: _ => false
  | _ :: r => onesB r
def constK (x : Value) (K : AV → Prop) : Prop :=
  match x with
  | .agg cs => bif onesB cs.toList then dvsK cs.toList fun l => K (.agg l) else False
  | .tuple _ => False
  | x => K (.d (.v x))
def evK (cx : Cx) (o : Operand) (tm : TM) (K : AV → Prop) : Prop :=
  match o with
  | .tmp t => lkK t tm K
  | .const x => constK x K
  | .func f => K (.fn f [])
  | .global g => match cx.gl g with
    | some (m, f) => K (.ep m f)
    | none => False
def evsK (cx : Cx) (tm : TM) : List Operand → (List AV → Prop) → Prop
  | [], K => K []
  | o :: r, K => evK cx o tm fun a => evsK cx tm r fun l => K (a :: l)
def intK (a : AV) (K : IntKind → Int → Prop) : Prop :=
  match a with
  | .d (.v (.int k x)) => K k x
  | _ => False
def boolK (a : AV) (K : Bool → Prop) : Prop :=
  match a with
  | .d (.v (.bool b)) => K b
  | _ => False

/-! ### content -/
def lenK (r : DV) (K : Nat → Prop) : Prop :=
  match r with
  | .v _ => False
  | .fn _ _ _ _ => False
  | .ep _ _ => False
  | .ints _ l => K l.length
  | .bools l => K l.length
  | .strs l => K l.length
  | .gen _ n _ => K n
/-- element i: how many cells, and each -/
def cellK (r : DV) (i : Nat) (K : Nat → (Nat → DV) → Prop) : Prop :=
  match r with
  | .v _ => False
  | .fn _ _ _ _ => False
  | .ep _ _ => False
  | .ints k l => K 1 fun _ => .v (.int k (l.getD i 0))
  | .bools l => K 1 fun _ => .v (.bool (l.getD i false))
  | .strs l => K 1 fun _ => .v (.string (l.getD i ByteArray.empty))
  | .gen k _ el => K k (el i)
/-- cell j of element i becomes x -/
def putDV (r : DV) (i j : Nat) (x : DV) (K : DV → Prop) : Prop :=
  match r, x with
  | .ints k l, .v (.int k' y) => Ob (k = k') ∧ K (.ints k (l.set i y))
  | .bools l, .v (.bool y) => K (.bools (l.set i y))
  | .strs l, .v (.string y) => K (.strs (l.set i y))
  | .gen k n el, x => K (.gen k n fun a b => bif Nat.beq a i && Nat.beq b j then x else el a b)
  | _, _ => False
def appDV (r s : DV) (K : DV → Prop) : Prop :=
  match r, s with
  | .ints k l, .ints k' m => Ob (k = k') ∧ K (.ints k (l ++ m))
  | .bools l, .bools m => K (.bools (l ++ m))
  | .strs l, .strs m => K (.strs (l ++ m))
  | .gen k n el, .gen k' n' el' => Ob (k = k') ∧ K (.gen k (n + n') fun i j => bif Nat.blt i n then el i j else el' (i - n) j)
  | _, _ => False
/-- the part from lo on, up to hi -/
def cutDV (r : DV) (lo hi : Nat) (K : DV → Prop) : Prop :=
  match r with
  | .v _ => False
  | .fn _ _ _ _ => False
  | .ep _ _ => False
  | .ints k l => K (.ints k ((l.take hi).drop lo))
  | .bools l => K (.bools ((l.take hi).drop lo))
  | .strs l => K (.strs ((l.take hi).drop lo))
  | .gen k _ el => K (.gen k (hi - lo) fun i j => el (lo + i) j)
/-- the empty content of elements with these zero cells -/
def emptyDV (zero : List Value) (K : DV → Prop) : Prop :=
  match zero with
  | [.int k _] => K (.ints k [])
  | [.bool _] => K (.bools [])
  | [.string _] => K (.strs [])
  | z => K (.gen z.length 0 fun _ _ => .v undef)
def zerosDV (zero : List Value) (n : Nat) (K : DV → Prop) : Prop :=
  match zero with
  | [.int k z] => K (.ints k (List.replicate n z))
  | [.bool z] => K (.bools (List.replicate n z))
  | [.string z] => K (.strs (List.replicate n z))
  | z => K (.gen z.length n fun _ j => .v (z.getD j undef))

/-! ### references to a block are struck -/
mutual
def AV.kill (b : Nat) : AV → AV
  | .bp c j => bif Nat.beq b c then .top else .bp c j
  | .rp c k i j => bif Nat.beq b c then .top else .rp c k i j
  | .own c n => bif Nat.beq b c then .top else .own c n
  | .seg c k o n => bif Nat.beq b c then .top else .seg c k o n
  | .agg l => .agg (AV.kills b l)
  | .fn g l => .fn g (AV.kills b l)
  | .clo i g l => .clo i g (AV.kills b l)
  | .yl c T l => bif Nat.beq b c then .top else .yl c T (AV.kills b l)
  | .tup l => .tup (AV.kills b l)
  | a => a
def AV.kills (b : Nat) : List AV → List AV
  | [] => []
  | a :: r => AV.kill b a :: AV.kills b r
end
mutual
def AV.killK (b : Nat) : AV → (AV → Prop) → Prop
  | .top, K => K .top
  | .d x, K => K (.d x)
  | .ep m f, K => K (.ep m f)
  | .full x, K => K (.full x)
  | .bp c j, K => bif Nat.beq b c then K .top else K (.bp c j)
  | .rp c k i j, K => bif Nat.beq b c then K .top else K (.rp c k i j)
  | .own c n, K => bif Nat.beq b c then K .top else K (.own c n)
  | .seg c k o n, K => bif Nat.beq b c then K .top else K (.seg c k o n)
  | .agg l, K => AV.killsK b l fun l => K (.agg l)
  | .fn g l, K => AV.killsK b l fun l => K (.fn g l)
  | .clo i g l, K => AV.killsK b l fun l => K (.clo i g l)
  | .yl c T l, K => bif Nat.beq b c then K .top else AV.killsK b l fun l => K (.yl c T l)
  | .tup l, K => AV.killsK b l fun l => K (.tup l)
def AV.killsK (b : Nat) : List AV → (List AV → Prop) → Prop
  | [], K => K []
  | a :: r, K => AV.killK b a fun a => AV.killsK b r fun r => K (a :: r)
end
def killTM (b : Nat) : TM → TM
  | [] => []
  | (t, a) :: r => (t, a.kill b) :: killTM b r
def killT (b : Nat) : TM → (TM → Prop) → Prop
  | [], K => K []
  | (t, a) :: r, K => AV.killK b a fun a => killT b r fun r => K ((t, a) :: r)
def ABlk.kill (b : Nat) : ABlk → ABlk
  | .box cs => .box (AV.kills b cs)
  | x => x
def killMM (b : Nat) : MM → MM
  | [] => []
  | (t, a) :: r => (t, a.kill b) :: killMM b r
def killM (b : Nat) : MM → (MM → Prop) → Prop
  | [], K => K []
  | (t, .box cs) :: r, K => AV.killsK b cs fun cs => killM b r fun r => K ((t, .box cs) :: r)
  | (t, .gone) :: r, K => killM b r fun r => K ((t, .gone) :: r)
  | (t, .row e x) :: r, K => killM b r fun r => K ((t, .row e x) :: r)
  | (t, .lp x) :: r, K => killM b r fun r => K ((t, .lp x) :: r)

/-! ### a value's cells; a value as data -/
def cellsK (a : AV) (K : List AV → Prop) : Prop :=
  match a with
  | .agg l => K l
  | .top => False
  | .tup _ => False
  | .d (.v (.agg _)) => False
  | .d (.v (.tuple _)) => False
  | a => K [a]
/-- what a row of the call's own holds, as data -/
def rowK (b : Nat) (mm : MM) (K : DV → Prop) : Prop :=
  getK b mm fun x => match x with
    | .row _ r => K r
    | _ => False
/-- as data to a reader: a row as its content -/
def asDV (mm : MM) (a : AV) (K : DV → Prop) : Prop :=
  match a with
  | .d x => K x
  | .full x => K x
  | .own b n => rowK b mm fun r => Ob (n = r.len) ∧ K r
  | .seg b k off n => rowK b mm fun r => bif Nat.beq k r.width then (Ob (off + n ≤ r.len) ∧ cutDV r off (off + n) K) else False
  | _ => False
def asDVs (mm : MM) : List AV → (List DV → Prop) → Prop
  | [], K => K []
  | a :: r, K => asDV mm a fun x => asDVs mm r fun l => K (x :: l)
def listDVf (f : AV → (DV → Prop) → Prop) : List AV → (List DV → Prop) → Prop
  | [], K => K []
  | a :: r, K => f a fun x => listDVf f r fun l => K (x :: l)
/-- as data, functions and boxes too -/
def asDVf (mm : MM) : Nat → AV → (DV → Prop) → Prop
  | 0, _, _ => False
  | n + 1, a, K => match a with
    | .ep m f => K (.ep m f)
    | .bp b j => getK b mm fun x => match x with
      | .box cs => listDVf (asDVf mm n) (cs.drop j) fun l => K (.ep l.length fun i => l.getD i (.v undef))
      | _ => False
    | .fn g l => listDVf (asDVf mm n) l fun l => K (.fn none g l.length fun i => l.getD i (.v undef))
    | .clo i g l => listDVf (asDVf mm n) l fun l => K (.fn (some i) g l.length fun i => l.getD i (.v undef))
    | a => asDV mm a K
/-! lent for the time of a call that only reads -/
mutual
def lendK (mm : MM) : AV → (AV → Prop) → Prop
  | .d x, K => K (.d x)
  | .full x, K => K (.full x)
  | .ep m f, K => K (.ep m f)
  | .own b n, K => rowK b mm fun r => Ob (n = r.len) ∧ K (.d r)
  | .seg b k off n, K => rowK b mm fun r => bif Nat.beq k r.width then (Ob (off + n ≤ r.len) ∧ cutDV r off (off + n) fun r => K (.d r)) else False
  | .bp b j, K => getK b mm fun x => match x with
    | .box cs => listDVf (asDVf mm 6) (cs.drop j) fun l => K (.ep l.length fun i => l.getD i (.v undef))
    | _ => False
  | .agg l, K => lendsK mm l fun l => K (.agg l)
  | .fn g l, K => lendsK mm l fun l => K (.fn g l)
  | .clo i g l, K => lendsK mm l fun l => K (.clo i g l)
  | _, _ => False
def lendsK (mm : MM) : List AV → (List AV → Prop) → Prop
  | [], K => K []
  | a :: r, K => lendK mm a fun x => lendsK mm r fun l => K (x :: l)
end

/-! a row becomes data for good: it is written no more -/
mutual
def AV.subK (b : Nat) (r : DV) : AV → (AV → Prop) → Prop
  | .top, K => K .top
  | .d x, K => K (.d x)
  | .ep m f, K => K (.ep m f)
  | .full x, K => K (.full x)
  | .bp c j, K => bif Nat.beq b c then K .top else K (.bp c j)
  | .rp c k i j, K => bif Nat.beq b c then K .top else K (.rp c k i j)
  | .own c n, K => bif Nat.beq b c then (Ob (n = r.len) ∧ K (.d r)) else K (.own c n)
  | .seg c k o n, K => bif Nat.beq b c then K .top else K (.seg c k o n)
  | .agg l, K => AV.subsK b r l fun l => K (.agg l)
  | .fn g l, K => AV.subsK b r l fun l => K (.fn g l)
  | .clo i g l, K => AV.subsK b r l fun l => K (.clo i g l)
  | .yl c T l, K => bif Nat.beq b c then K .top else AV.subsK b r l fun l => K (.yl c T l)
  | .tup l, K => AV.subsK b r l fun l => K (.tup l)
def AV.subsK (b : Nat) (r : DV) : List AV → (List AV → Prop) → Prop
  | [], K => K []
  | a :: l, K => AV.subK b r a fun a => AV.subsK b r l fun l => K (a :: l)
end
def subT (b : Nat) (r : DV) : TM → (TM → Prop) → Prop
  | [], K => K []
  | (t, a) :: l, K => AV.subK b r a fun a => subT b r l fun l => K ((t, a) :: l)
def subM (b : Nat) (r : DV) : MM → (MM → Prop) → Prop
  | [], K => K []
  | (t, .box cs) :: l, K => AV.subsK b r cs fun cs => subM b r l fun l => K ((t, .box cs) :: l)
  | (t, .gone) :: l, K => subM b r l fun l => K ((t, .gone) :: l)
  | (t, .lp x) :: l, K => subM b r l fun l => K ((t, .lp x) :: l)
  | (t, .row e x) :: l, K => bif Nat.beq b t then subM b r l fun l => K ((t, .gone) :: l) else subM b r l fun l => K ((t, .row e x) :: l)
/-- the value as data for good -/
def frzK (tm : TM) (mm : MM) (a : AV) (K : TM → MM → DV → Prop) : Prop :=
  match a with
  | .d x => K tm mm x
  | .full x => K tm mm x
  | .own b n => rowK b mm fun r => Ob (n = r.len) ∧ subT b r tm fun tm => subM b r mm fun mm => K tm mm r
  | _ => False

/-! ### operations -/
structure brK (b : Bool) (A B : Prop) : Prop where
  t : b = true → A
  f : b = false → B
theorem brK_of {b : Bool} {A B : Prop} (h : b = true → A) (h' : b = false → B) : brK b A B := ⟨h, h'⟩
theorem brK_t {A B : Prop} (h : A) : brK true A B := ⟨fun _ => h, fun h => nomatch h⟩
theorem brK_f {A B : Prop} (h : B) : brK false A B := ⟨fun h => (nomatch h), fun _ => h⟩
theorem brK_ok' {b : Bool} {A B : Prop} (h : brK b A B) : (b = true ∧ A) ∨ (b = false ∧ B) := by
  cases b
  · exact .inr ⟨rfl, h.f rfl⟩
  · exact .inl ⟨rfl, h.t rfl⟩
theorem brK_id {b : Bool} {A B : Prop} (h : brK b A B) : brK b A B := h
theorem brK_dec {p : Prop} [Decidable p] {A B : Prop} (h : p → A) (h' : ¬ p → B) : brK (decide p) A B := ⟨fun e => h (of_decide_eq_true e), fun e => h' (of_decide_eq_false e)⟩
theorem brK_ndec {p : Prop} [Decidable p] {A B : Prop} (h : ¬ p → A) (h' : p → B) : brK (!decide p) A B := ⟨fun e => h (by simpa using e), fun e => h' (by simpa using e)⟩
theorem brK_not {b : Bool} {A B : Prop} (h : brK b B A) : brK (!b) A B := ⟨fun e => h.f (by simpa using e), fun e => h.t (by simpa using e)⟩
def putK (cx : Cx) (t : Option Nat) (a : AV) (tm : TM) (K : TM → Prop) : Prop :=
  match t with
  | some t => bif Nat.blt t cx.nt then K ((t, a) :: tm) else False
  | none => K tm
/-- a new block, by the slot of the operation that makes it -/
def newK (cx : Cx) (t : Option Nat) (x : ABlk) (a : AV) (tm : TM) (mm : MM) (K : TM → MM → Prop) : Prop :=
  match t with
  | some t => bif Nat.blt t hk then killT t tm fun tm => killM t mm fun mm => putK cx (some t) a tm fun tm => (match x with
    | .box cs => AV.killsK t cs fun cs => K tm ((t, .box cs) :: mm)
    | .row e r => K tm ((t, .row e r) :: mm)
    | .lp _ => False
    | .gone => False) else False
  | none => False
def inR (k : IntKind) (x : Int) : Prop := k.min ≤ x ∧ x ≤ k.max
def in64 (x : Int) : Prop := -9223372036854775808 ≤ x ∧ x ≤ 9223372036854775807
def pos64 (x : Int) : Prop := 0 ≤ x ∧ x ≤ 9223372036854775807
def bitv (op : BinOp) (k : IntKind) (x y : Int) : Int :=
  match op with
  | .and => k.wrap (BitVec.ofInt k.bits x &&& BitVec.ofInt k.bits y).toNat
  | .or => k.wrap (BitVec.ofInt k.bits x ||| BitVec.ofInt k.bits y).toNat
  | .xor => k.wrap (BitVec.ofInt k.bits x ^^^ BitVec.ofInt k.bits y).toNat
  | _ => k.wrap (BitVec.ofInt k.bits x &&& ~~~ BitVec.ofInt k.bits y).toNat
def bit64 (op : BinOp) (x y : Int) (K : Int → Prop) : Prop :=
  match op with
  | .and => K (x.toNat &&& y.toNat : Nat)
  | .or => K (x.toNat ||| y.toNat : Nat)
  | .xor => K (x.toNat ^^^ y.toNat : Nat)
  | _ => False
/-- raw: as the machine wraps; else exact, the bounds being shown -/
def arithK (raw : Bool) (k : IntKind) (z : Int) (K : AV → Prop) : Prop :=
  match raw, k with
  | false, .i64 => Ob (in64 z) ∧ K (.d (.v (.int .i64 z)))
  | _, k => K (.d (.v (.int k (k.wrap z))))
def bitK (raw : Bool) (op : BinOp) (k : IntKind) (x y : Int) (K : AV → Prop) : Prop :=
  match raw, k with
  | false, .i64 => Ob (pos64 x ∧ pos64 y) ∧ bit64 op x y fun z => K (.d (.v (.int .i64 z)))
  | _, k => K (.d (.v (.int k (bitv op k x y))))
def binInt (raw : Bool) (op : BinOp) (k : IntKind) (x : Int) (k' : IntKind) (y : Int) (K : AV → Prop) : Prop :=
  match op with
  | .shl => Ob (0 ≤ y) ∧ arithK raw k (x * 2 ^ min y.toNat k.bits) K
  | .shr => Ob (0 ≤ y) ∧ K (.d (.v (.int k (x / 2 ^ min y.toNat k.bits))))
  | .add => Ob (k = k') ∧ arithK raw k (x + y) K
  | .sub => Ob (k = k') ∧ arithK raw k (x - y) K
  | .mul => Ob (k = k') ∧ arithK raw k (x * y) K
  | .quo => Ob (k = k') ∧ (match raw with
    | true => Ob (y ≠ 0) ∧ K (.d (.v (.int k (k.wrap (x.tdiv y)))))
    | false => Ob (0 ≤ x ∧ x ≤ k.max ∧ 0 < y) ∧ K (.d (.v (.int k (x / y)))))
  | .rem => Ob (k = k') ∧ (match raw with
    | true => Ob (y ≠ 0) ∧ K (.d (.v (.int k (x.tmod y))))
    | false => Ob (0 ≤ x ∧ 0 < y) ∧ K (.d (.v (.int k (x % y)))))
  | .and => Ob (k = k') ∧ bitK raw .and k x y K
  | .or => Ob (k = k') ∧ bitK raw .or k x y K
  | .xor => Ob (k = k') ∧ bitK raw .xor k x y K
  | .andNot => Ob (k = k') ∧ K (.d (.v (.int k (bitv .andNot k x y))))
  | .eql => Ob (k = k') ∧ K (.d (.v (.bool (decide (x = y)))))
  | .neq => Ob (k = k') ∧ K (.d (.v (.bool (!decide (x = y)))))
  | .lss => Ob (k = k') ∧ K (.d (.v (.bool (decide (x < y)))))
  | .leq => Ob (k = k') ∧ K (.d (.v (.bool (decide (x ≤ y)))))
  | .gtr => Ob (k = k') ∧ K (.d (.v (.bool (decide (y < x)))))
  | .geq => Ob (k = k') ∧ K (.d (.v (.bool (decide (y ≤ x)))))
def binStr (op : BinOp) (s t : ByteArray) (K : AV → Prop) : Prop :=
  match op with
  | .add => Ob (s.size + t.size ≤ 9223372036854775807) ∧ K (.d (.v (.string (s ++ t))))
  | .eql => K (.d (.v (.bool (decide (s = t)))))
  | .neq => K (.d (.v (.bool (!decide (s = t)))))
  | .lss => K (.d (.v (.bool (Op.bytesLess s.toList t.toList))))
  | _ => False
def isNilConst : Operand → Bool
  | .const (.slice none _ _) => true
  | _ => false
/-- a slice held against nil: nothing is known but that a nil slice is empty -/
def nilEq (op : BinOp) (n : Nat) (K : AV → Prop) : Prop :=
  match op with
  | .eql => ∀ b : Bool, (b = true → n = 0) → K (.d (.v (.bool b)))
  | .neq => ∀ b : Bool, (b = true → n = 0) → K (.d (.v (.bool (!b))))
  | _ => False
/-- two structs' cells, one by one -/
def eqCells : List Value → List AV → List AV → (Prop → Prop) → Prop
  | [], [], [], K => K True
  | .int k _ :: z, .d (.v (.int k1 x)) :: r, .d (.v (.int k2 y)) :: s, K => Ob (k1 = k ∧ k2 = k) ∧ eqCells z r s fun p => K (x = y ∧ p)
  | .bool _ :: z, .d (.v (.bool x)) :: r, .d (.v (.bool y)) :: s, K => eqCells z r s fun p => K (x = y ∧ p)
  | .string _ :: z, .d (.v (.string x)) :: r, .d (.v (.string y)) :: s, K => eqCells z r s fun p => K (x = y ∧ p)
  | _, _, _, _ => False

def boolB (cx : Cx) (op : BinOp) (t : TypeId) (x y : Bool) (K : AV → Prop) : Prop :=
  match cx.tb t with
  | none => False
  | some ti => bif Nat.beq ti.kind 5 then (match op with
    | .eql => K (.d (.v (.bool (decide (x = y)))))
    | .neq => K (.d (.v (.bool (!decide (x = y)))))
    | _ => False) else False
/-- m cells from j on -/
def takeK (j : Nat) : Nat → List AV → (List AV → Prop) → Prop
  | 0, _, K => K []
  | _ + 1, [], _ => False
  | m + 1, a :: r, K => match j with
    | 0 => takeK 0 m r fun l => K (a :: l)
    | j' + 1 => takeK j' (m + 1) r K
/-- the cells from j on are xs -/
def replK : Nat → List AV → List AV → (List AV → Prop) → Prop
  | 0, [], cs, K => K cs
  | 0, x :: xs, _ :: cs, K => replK 0 xs cs fun r => K (x :: r)
  | j + 1, xs, c :: cs, K => replK j xs cs fun r => K (c :: r)
  | _, _, _, _ => False
def aggK (f : Nat → DV) : Nat → Nat → (List AV → Prop) → Prop
  | _, 0, K => K []
  | j, m + 1, K => aggK f (j + 1) m fun l => K (.d (f j) :: l)
def oneA (l : List AV) (K : AV → Prop) : Prop :=
  match l with
  | [a] => K a
  | _ => False
def capL (f : Nat → DV) : Nat → Nat → List AV
  | _, 0 => []
  | j, n + 1 => .d (f j) :: capL f (j + 1) n
/-- functions and addresses that are told as data -/
def normA (a : AV) : AV :=
  match a with
  | .d x => match x with
    | .fn none g n caps => .fn g (capL caps 0 n)
    | .fn (some i) g n caps => .clo i g (capL caps 0 n)
    | .ep m f => .ep m f
    | x => .d x
  | a => a
/-- one cell (scalar types) or an aggregate -/
def loadK (cx : Cx) (t : TypeId) (a : AV) (mm : MM) (K : AV → Prop) : Prop :=
  match cx.tb t with
  | none => False
  | some ti => match normA a with
    | .ep m f => bif Nat.ble ti.cells m then (bif ti.agg then aggK f 0 ti.cells fun l => K (.agg l) else (bif Nat.beq ti.cells 1 then K (.d (f 0)) else False)) else False
    | .bp b j => getK b mm fun x => match x with
      | .box cs => takeK j ti.cells cs fun l => bif ti.agg then K (.agg l) else oneA l K
      | _ => False
    | .rp b k i j => rowK b mm fun r => Ob (i < r.len) ∧ cellK r i fun k' f => bif Nat.beq k k' && Nat.ble (j + ti.cells) k then
        (bif ti.agg then aggK f j ti.cells fun l => K (.agg l) else (bif Nat.beq ti.cells 1 then K (.d (f j)) else False)) else False
    | _ => False
/-- cells of an element written one by one -/
def putsDV (i : Nat) : Nat → List DV → DV → (DV → Prop) → Prop
  | _, [], r, K => K r
  | j, x :: xs, r, K => putDV r i j x fun r => putsDV i (j + 1) xs r K
def frzsK : List AV → TM → MM → (TM → MM → List DV → Prop) → Prop
  | [], tm, mm, K => K tm mm []
  | a :: l, tm, mm, K => frzK tm mm a fun tm mm x => frzsK l tm mm fun tm mm r => K tm mm (x :: r)
def lenL : List AV → Nat
  | [] => 0
  | _ :: r => lenL r + 1
def storeK (cx : Cx) (t : TypeId) (a y : AV) (tm : TM) (mm : MM) (K : TM → MM → Prop) : Prop :=
  match cx.tb t with
  | none => False
  | some ti => cellsK y fun ys => bif Nat.beq (lenL ys) ti.cells then (match a with
    | .bp b j => getK b mm fun x => match x with
      | .box cs => replK j ys cs fun cs => setK b (.box cs) mm fun mm => K tm mm
      | _ => False
    | .rp b k i j => frzsK ys tm mm fun tm mm xs => getK b mm fun x => match x with
      | .row e r => Ob (i < r.len) ∧ (bif Nat.beq k r.width && Nat.ble (j + ti.cells) k then putsDV i j xs r fun r => setK b (.row e r) mm fun mm => K tm mm else False)
      | _ => False
    | _ => False) else False
def nthK {α : Type} : Nat → List α → (α → Prop) → Prop
  | _, [], _ => False
  | 0, a :: _, K => K a
  | j + 1, _ :: r, K => nthK j r K
def fieldAddrK (cx : Cx) (t : TypeId) (a : AV) (j : Nat) (K : AV → Prop) : Prop :=
  match cx.tb t with
  | none => False
  | some ti => bif Nat.beq ti.kind 1 then (nthK j ti.offs fun x => match x with
    | (off, size, _) => bif Nat.beq size 0 then False else (match normA a with
      | .ep m f => K (.ep (m - off) fun x => f (off + x))
      | .bp b j => K (.bp b (j + off))
      | .rp b k i j => K (.rp b k i (j + off))
      | _ => False)) else False
def fieldK (cx : Cx) (t : TypeId) (a : AV) (j : Nat) (K : AV → Prop) : Prop :=
  match cx.tb t with
  | none => False
  | some ti => bif Nat.beq ti.kind 1 then (nthK j ti.offs fun x => match x with
    | (off, size, ag) => match a with
      | .agg cs => takeK off size cs fun l => bif ag then K (.agg l) else (bif Nat.beq size 1 then oneA l K else False)
      | _ => False) else False
/-- the cells of an element of a slice type -/
def ewK (cx : Cx) (t : TypeId) (K : TypeId → TI → Prop) : Prop :=
  match cx.tb t with
  | none => False
  | some ti => bif Nat.beq ti.kind 3 then (match cx.tb ti.elem with
    | none => False
    | some te => K ti.elem te) else False
def indexAddrK (cx : Cx) (t : TypeId) (a : AV) (i : Int) (K : AV → Prop) : Prop :=
  ewK cx t fun _ te => match a with
    | .d r => lenK r fun n => Ob (0 ≤ i ∧ i < n) ∧ cellK r i.toNat fun k f => bif Nat.beq te.cells k then K (.ep k f) else False
    | .full r => lenK r fun n => Ob (0 ≤ i ∧ i < n) ∧ cellK r i.toNat fun k f => bif Nat.beq te.cells k then K (.ep k f) else False
    | .own b n => Ob (0 ≤ i ∧ i < n) ∧ K (.rp b te.cells i.toNat 0)
    | .seg b k off n => Ob (0 ≤ i ∧ i < n) ∧ (bif Nat.beq te.cells k then K (.rp b k (off + i.toNat) 0) else False)
    | _ => False
/-- an array of a known number of elements, at an index -/
def arrK (size : Nat) (ag : Bool) (i : Int) : Nat → Nat → List AV → (AV → Prop) → Prop
  | _, 0, _, _ => True
  | j, m + 1, cs, K => (i = (j : Int) → takeK (j * size) size cs fun l => bif ag then K (.agg l) else oneA l K) ∧ arrK size ag i (j + 1) m cs K
def strT (cx : Cx) (t : TypeId) (K : Prop) : Prop :=
  match cx.tb t with
  | none => False
  | some ti => bif Nat.beq ti.kind 4 then K else False
def indexK (cx : Cx) (t : TypeId) (a : AV) (i : Int) (K : AV → Prop) : Prop :=
  match a with
  | .d (.v (.string s)) => strT cx t (Ob (0 ≤ i ∧ i < s.size) ∧ K (.d (.v (.int .u8 ((s.data.getD i.toNat 0).toNat : Int)))))
  | .agg cs => match cx.tb t with
    | none => False
    | some ti => bif Nat.beq ti.kind 2 then (match ti.offs with
      | [(len, size, ag)] => Ob (0 ≤ i ∧ i < len) ∧ arrK size ag i 0 len cs K
      | _ => False) else False
  | _ => False
def optK (cx : Cx) (o : Option Operand) (tm : TM) (dflt : Int) (K : Int → Prop) : Prop :=
  match o with
  | none => K dflt
  | some x => evK cx x tm fun a => intK a fun _ i => K i
def cutK (cx : Cx) (te : TI) (r : DV) (lo hi mx : Option Operand) (tm : TM) (K : AV → Prop) : Prop :=
  lenK r fun n => bif Nat.beq te.cells r.width then (optK cx lo tm 0 fun l => optK cx hi tm n fun h => match mx with
    | none => Ob (0 ≤ l ∧ l ≤ h ∧ h ≤ n) ∧ cutDV r l.toNat h.toNat fun r => K (.d r)
    | some _ => match hi with
      | none => False
      | some _ => optK cx mx tm 0 fun m => Ob (0 ≤ l ∧ l ≤ h ∧ h ≤ n ∧ m = h) ∧ cutDV r l.toNat h.toNat fun r => K (.full r)) else False
def sliceK (cx : Cx) (t : TypeId) (a : AV) (lo hi : Option Operand) (mx : Option Operand) (tm : TM) (K : AV → Prop) : Prop :=
  match a with
  | .d (.v (.string s)) => match mx with
    | none => strT cx t (optK cx lo tm 0 fun l => optK cx hi tm s.size fun h => Ob (0 ≤ l ∧ l ≤ h ∧ h ≤ s.size) ∧ K (.d (.v (.string (s.extract l.toNat h.toNat)))))
    | some _ => False
  | .d (.v (.slice none 0 0)) => match mx with
    | none => match lo with
      | none => ewK cx t fun _ _ => optK cx hi tm 0 fun h => Ob (h = 0) ∧ K (.d (.v (.slice none 0 0)))
      | some _ => False
    | some _ => False
  | .d r => ewK cx t fun _ te => cutK cx te r lo hi mx tm K
  | .full r => ewK cx t fun _ te => cutK cx te r lo hi mx tm K
  | .own b n => ewK cx t fun _ te => match mx with
    | none => match lo with
      | none => optK cx hi tm n fun h => Ob (0 ≤ h ∧ h ≤ n) ∧ K (.own b h.toNat)
      | some _ => optK cx lo tm 0 fun l => optK cx hi tm n fun h => Ob (0 ≤ l ∧ l ≤ h ∧ h ≤ n) ∧ K (.seg b te.cells l.toNat (h.toNat - l.toNat))
    | some _ => False
  | .seg b k off n => ewK cx t fun _ te => match mx with
    | none => optK cx lo tm 0 fun l => optK cx hi tm n fun h => Ob (0 ≤ l ∧ l ≤ h ∧ h ≤ n) ∧ bif Nat.beq te.cells k then K (.seg b k (off + l.toNat) (h.toNat - l.toNat)) else False
    | some _ => False
  | _ => False
/-- parts of a struct: numbers of fields, their cells -/
def fillK (offs : List (Nat × Nat × Bool)) : List (Nat × List AV) → List AV → (List AV → Prop) → Prop
  | [], cs, K => K cs
  | (i, xs) :: r, cs, K => nthK i offs fun x => match x with
    | (off, size, _) => bif Nat.beq (lenL xs) size then replK off xs cs fun cs => fillK offs r cs K else False
def partsK (cx : Cx) (tm : TM) : List (Nat × Operand) → (List (Nat × List AV) → Prop) → Prop
  | [], K => K []
  | (i, o) :: r, K => evK cx o tm fun a => cellsK a fun cs => partsK cx tm r fun l => K ((i, cs) :: l)
def buildK (cx : Cx) (t : TypeId) (parts : List (Nat × Operand)) (tm : TM) (K : AV → Prop) : Prop :=
  match cx.tb t with
  | none => False
  | some ti => bif Nat.beq ti.kind 1 then (dvsK ti.zero fun z => partsK cx tm parts fun ps => fillK ti.offs ps z fun cs => K (.agg cs)) else False
/-- a slice literal's elements, all of them, in order -/
def densK (k : Nat) : Nat → List (Nat × List AV) → Prop → Prop
  | _, [], K => K
  | j, (i, cs) :: r, K => bif Nat.beq i j && Nat.beq (lenL cs) k then densK k (j + 1) r K else False
def elemsK : List (Nat × List AV) → TM → MM → (TM → MM → List (List DV) → Prop) → Prop
  | [], tm, mm, K => K tm mm []
  | (_, cs) :: r, tm, mm, K => frzsK cs tm mm fun tm mm xs => elemsK r tm mm fun tm mm l => K tm mm (xs :: l)
def rowOf : List Value → List (List DV) → (DV → Prop) → Prop
  | [.int k _], [], K => K (.ints k [])
  | [.int k z], [.v (.int k' x)] :: r, K => rowOf [.int k z] r fun l => match l with
    | .ints k0 l => Ob (k' = k ∧ k0 = k) ∧ K (.ints k (x :: l))
    | _ => False
  | [.bool _], [], K => K (.bools [])
  | [.bool z], [.v (.bool x)] :: r, K => rowOf [.bool z] r fun l => match l with
    | .bools l => K (.bools (x :: l))
    | _ => False
  | [.string _], [], K => K (.strs [])
  | [.string z], [.v (.string x)] :: r, K => rowOf [.string z] r fun l => match l with
    | .strs l => K (.strs (x :: l))
    | _ => False
  | z, l, K => K (.gen z.length l.length fun i j => (l.getD i []).getD j (.v undef))
def buildSliceK (cx : Cx) (d : Option Nat) (t : TypeId) (n : Nat) (parts : List (Nat × Operand)) (tm : TM) (mm : MM) (K : TM → MM → Prop) : Prop :=
  ewK cx t fun e te => partsK cx tm parts fun ps => densK te.cells 0 ps (bif Nat.beq ps.length n && Nat.ble (n * te.cells) 1000 then
    (elemsK ps tm mm fun tm mm els => rowOf te.zero els fun r => match d with
      | some d => newK cx (some d) (.row e r) (.own d n) tm mm K
      | none => False) else False)
def maxBytes : Nat := 140737488355328
def makeSliceK (cx : Cx) (d : Option Nat) (t : TypeId) (l c : Int) (tm : TM) (mm : MM) (K : TM → MM → Prop) : Prop :=
  ewK cx t fun e te => Ob (0 ≤ l ∧ l ≤ c ∧ c * te.bytes ≤ maxBytes ∧ 0 < te.bytes) ∧ zerosDV te.zero l.toNat fun r => match d with
    | some d => newK cx (some d) (.row e r) (.own d l.toNat) tm mm K
    | none => False
def bytesOf (s : ByteArray) : List Int := s.data.toList.map fun b => (b.toNat : Int)
def srcK (cx : Cx) (t : TypeId) (zero : List Value) (mm : MM) (a : AV) (K : DV → Prop) : Prop :=
  match a with
  | .d (.v (.slice none 0 0)) => ewK cx t fun _ _ => emptyDV zero K
  | .d (.v (.string s)) => strT cx t (K (.ints .u8 (bytesOf s)))
  | a => ewK cx t fun _ _ => asDV mm a K
def appendK (cx : Cx) (d : Option Nat) (t t2 : TypeId) (s x : AV) (tm : TM) (mm : MM) (K : TM → MM → Prop) : Prop :=
  ewK cx t fun e te => srcK cx t2 te.zero mm x fun r2 => bif Nat.beq te.cells r2.width && Nat.blt 0 te.bytes then (match d with
    | none => False
    | some d => match s with
      | .own b n => getK b mm fun x => match x with
        | .row e0 r => bif Nat.blt b hk && (Nat.beq e0 e && Nat.beq te.cells r.width) then (Ob (n = r.len) ∧ Ob ((r.len + r2.len) * te.bytes ≤ maxBytes) ∧ appDV r r2 fun r' =>
          killT b tm fun tm => killM b mm fun mm => setK b (.row e r') mm fun mm => putK cx (some d) (.own b r'.len) tm fun tm => K tm mm) else False
        | _ => False
      | .d (.v (.slice none 0 0)) => lenK r2 fun n => Ob (n * te.bytes ≤ maxBytes) ∧ newK cx (some d) (.row e r2) (.own d n) tm mm K
      | .full r => Ob ((r.len + r2.len) * te.bytes ≤ maxBytes ∧ (0 < r2.len ∨ r.len = 0)) ∧ appDV r r2 fun r' => newK cx (some d) (.row e r') (.own d r'.len) tm mm K
      | _ => False) else False
/-- copy(d, s): the elements that both have -/
def copyDV (r : DV) (off m : Nat) (s : DV) (K : DV → Prop) : Prop :=
  match r, s with
  | .ints k l, .ints k' x => Ob (k = k') ∧ K (.ints k (l.take off ++ x.take m ++ l.drop (off + m)))
  | .bools l, .bools x => K (.bools (l.take off ++ x.take m ++ l.drop (off + m)))
  | .strs l, .strs x => K (.strs (l.take off ++ x.take m ++ l.drop (off + m)))
  | .gen k n el, .gen k' _ el' => Ob (k = k') ∧ K (.gen k n fun i j => bif Nat.ble off i && Nat.blt i (off + m) then el' (i - off) j else el i j)
  | _, _ => False
/-- clear of the rest of a row: what is told of the row ends there -/
def clearK (cx : Cx) (t : TypeId) (s : AV) (tm : TM) (mm : MM) (K : TM → MM → Prop) : Prop :=
  ewK cx t fun e te => match s with
    | .seg b k off n => getK b mm fun x => match x with
      | .row e0 r => bif Nat.beq e0 e && (Nat.beq te.cells r.width && Nat.beq k te.cells) then (Ob (0 < n ∧ off + n ≤ r.len) ∧ cutDV r 0 off fun r' => setK b (.row e0 r') mm fun mm => K tm mm) else False
      | _ => False
    | _ => False
/-- copy into a row of elements of one cell -/
def copyGo (b off n : Nat) (e : TypeId) (r2 : DV) (tm : TM) (mm : MM) (K : Nat → TM → MM → Prop) : Prop :=
  getK b mm fun x => match x with
    | .row e0 r => bif Nat.beq e0 e && (Nat.beq r.width 1 && Nat.beq r2.width 1) then (Ob (0 < n ∧ 0 < r2.len ∧ off + n ≤ r.len) ∧ copyDV r off (min r2.len n) r2 fun r' => setK b (.row e0 r') mm fun mm => K (min r2.len n) tm mm) else False
    | _ => False
def copyK (cx : Cx) (t t2 : TypeId) (d s : AV) (tm : TM) (mm : MM) (K : Nat → TM → MM → Prop) : Prop :=
  ewK cx t fun e te => bif Nat.beq te.cells 1 then (ewK cx t2 fun _ _ => asDV mm s fun r2 => match d with
    | .own b n => copyGo b 0 n e r2 tm mm K
    | .seg b k off n => bif Nat.beq k 1 then copyGo b off n e r2 tm mm K else False
    | _ => False) else False
/-- append(nil, make(..)...), as the machine does it -/
def appendZK (cx : Cx) (d : Option Nat) (t t2 : TypeId) (s : AV) (k : Int) (tm : TM) (mm : MM) (K : TM → MM → Prop) : Prop :=
  match s with
  | .d (.v (.slice none 0 0)) => ewK cx t fun e te => match cx.tb t2 with
    | none => False
    | some ti => bif Nat.beq ti.kind 6 && Nat.blt 0 te.cells then Ob (0 < k ∧ k * te.bytes ≤ maxBytes ∧ 0 < te.bytes) ∧ zerosDV te.zero k.toNat fun r => match d with
      | some d => newK cx (some d) (.row e r) (.own d k.toNat) tm mm K
      | none => False
      else False
  | _ => False
def builtinK (cx : Cx) (o : Oper) (b : Builtin) (ts : List TypeId) (l : List AV) (tm : TM) (mm : MM) (K : TM → MM → Prop) : Prop :=
  match b with
  | .len => match l with
    | [a] => match ts with
      | [t] => match a with
        | .d (.v (.string s)) => strT cx t (putK cx o.dst (.d (.v (.int .i64 s.size))) tm fun tm => K tm mm)
        | .d (.v (.slice none 0 0)) => ewK cx t fun _ _ => putK cx o.dst (.d (.v (.int .i64 0))) tm fun tm => K tm mm
        | .d r => ewK cx t fun _ _ => lenK r fun n => putK cx o.dst (.d (.v (.int .i64 n))) tm fun tm => K tm mm
        | .full r => ewK cx t fun _ _ => lenK r fun n => putK cx o.dst (.d (.v (.int .i64 n))) tm fun tm => K tm mm
        | .own _ n => ewK cx t fun _ _ => putK cx o.dst (.d (.v (.int .i64 n))) tm fun tm => K tm mm
        | .seg _ _ _ n => ewK cx t fun _ _ => putK cx o.dst (.d (.v (.int .i64 n))) tm fun tm => K tm mm
        | _ => False
      | _ => False
    | _ => False
  | .append => match ts, l with
    | [t, t2], [s, x] => match x with
      | .d (.v (.int _ k)) => appendZK cx o.dst t t2 s k tm mm K
      | x => appendK cx o.dst t t2 s x tm mm K
    | _, _ => False
  | .clear => match ts, l with
    | [t], [s] => (match o.dst with
      | none => clearK cx t s tm mm K
      | some _ => False)
    | _, _ => False
  | .copy => match ts, l with
    | [t, t2], [d, s] => copyK cx t t2 d s tm mm fun m tm mm => putK cx o.dst (.d (.v (.int .i64 m))) tm fun tm => K tm mm
    | _, _ => False
  | .cap => match ts, l with
    | [t], [.d (.v (.slice none 0 0))] => ewK cx t fun _ _ => putK cx o.dst (.d (.v (.int .i64 0))) tm fun tm => K tm mm
    | _, _ => False
  | .max => match l with
    | [.d (.v (.int k x)), .d (.v (.int _ y))] => putK cx o.dst (.d (.v (.int k (if y > x then y else x)))) tm fun tm => K tm mm
    | _ => False
  | .min => match l with
    | [.d (.v (.int k x)), .d (.v (.int _ y))] => putK cx o.dst (.d (.v (.int k (if y < x then y else x)))) tm fun tm => K tm mm
    | _ => False
  | _ => False
def appAV : List AV → List AV → (List AV → Prop) → Prop
  | [], m, K => K m
  | a :: l, m, K => appAV l m fun r => K (a :: r)

/-! keys told otherwise, by a list -/
abbrev RN := List (Nat × Nat)
def rnK (k : Nat) : RN → (Nat → Prop) → Prop
  | [], _ => False
  | (u, c) :: r, K => bif Nat.beq k u then K c else rnK k r K
mutual
def AV.renK (f : RN) : AV → (AV → Prop) → Prop
  | .top, K => K .top
  | .d x, K => K (.d x)
  | .ep m g, K => K (.ep m g)
  | .full x, K => K (.full x)
  | .bp c j, K => rnK c f fun c => K (.bp c j)
  | .rp c k i j, K => rnK c f fun c => K (.rp c k i j)
  | .own c n, K => rnK c f fun c => K (.own c n)
  | .seg c k o n, K => rnK c f fun c => K (.seg c k o n)
  | .agg l, K => AV.rensK f l fun l => K (.agg l)
  | .fn g l, K => AV.rensK f l fun l => K (.fn g l)
  | .clo i g l, K => AV.rensK f l fun l => K (.clo i g l)
  | .yl c T l, K => rnK c f fun c => AV.rensK f l fun l => K (.yl c T l)
  | .tup l, K => AV.rensK f l fun l => K (.tup l)
def AV.rensK (f : RN) : List AV → (List AV → Prop) → Prop
  | [], K => K []
  | a :: l, K => AV.renK f a fun a => AV.rensK f l fun l => K (a :: l)
end
def ABlk.renK (f : RN) (x : ABlk) (K : ABlk → Prop) : Prop :=
  match x with
  | .gone => K .gone
  | .box cs => AV.rensK f cs fun cs => K (.box cs)
  | .row e r => K (.row e r)
  | .lp r => K (.lp r)
/-! the keys that values lead to -/
def inL (t : Nat) : List Nat → Bool
  | [] => false
  | u :: r => bif Nat.beq t u then true else inL t r
def addKey (c : Nat) (ks : List Nat) (K : List Nat → Prop) : Prop := bif inL c ks then K ks else K (c :: ks)
mutual
def AV.keysK : AV → List Nat → (List Nat → Prop) → Prop
  | .top, ks, K => K ks
  | .d _, ks, K => K ks
  | .ep _ _, ks, K => K ks
  | .full _, ks, K => K ks
  | .bp c _, ks, K => addKey c ks K
  | .rp c _ _ _, ks, K => addKey c ks K
  | .own c _, ks, K => addKey c ks K
  | .seg c _ _ _, ks, K => addKey c ks K
  | .agg l, ks, K => AV.keysLK l ks K
  | .fn _ l, ks, K => AV.keysLK l ks K
  | .clo _ _ l, ks, K => AV.keysLK l ks K
  | .yl c _ l, ks, K => addKey c ks fun ks => AV.keysLK l ks K
  | .tup l, ks, K => AV.keysLK l ks K
def AV.keysLK : List AV → List Nat → (List Nat → Prop) → Prop
  | [], ks, K => K ks
  | a :: l, ks, K => AV.keysK a ks fun ks => AV.keysLK l ks K
end
def boxKeys (mm : MM) : List Nat → List Nat → (List Nat → Prop) → Prop
  | [], ks, K => K ks
  | c :: r, ks, K => getK c mm fun x => match x with
    | .box cs => AV.keysLK cs ks fun ks => boxKeys mm r ks K
    | _ => boxKeys mm r ks K
def hks : List Nat := [1048576, 1048577, 1048578, 1048579, 1048580, 1048581, 1048582, 1048583, 1048584, 1048585, 1048586, 1048587]
def zipK : List Nat → List Nat → (RN → RN → Prop) → Prop
  | [], _, K => K [] []
  | c :: r, h :: hs, K => zipK r hs fun f g => K ((c, h) :: f) ((h, c) :: g)
  | _ :: _, [], _ => False
/-- the blocks handed in, under their keys there -/
def handK (f : RN) (mm : MM) : RN → (MM → Prop) → Prop
  | [], K => K []
  | (c, h) :: r, K => getK c mm fun x => ABlk.renK f x fun x => handK f mm r fun m => K ((h, x) :: m)
/-- and back -/
def backK (g : RN) (mm' : MM) : RN → MM → (MM → Prop) → Prop
  | [], mm, K => K mm
  | (c, h) :: r, mm, K => getK h mm' fun x => ABlk.renK g x fun x => setK c x mm fun mm => backK g mm' r mm K
def nodupB : List Nat → Bool
  | [] => true
  | c :: r => bif inL c r then false else nodupB r
def fstL : RN → List Nat
  | [] => []
  | (c, _) :: r => c :: fstL r
def sndL : RN → List Nat
  | [] => []
  | (_, c) :: r => c :: sndL r
def allLt (n : Nat) : List Nat → Bool
  | [] => true
  | c :: r => bif Nat.blt c n then allLt n r else false
def anyIn (l : List Nat) : List Nat → Bool
  | [] => false
  | c :: r => bif inL c l then true else anyIn l r
/-- the blocks that a call has made, under keys of this call's own -/
def newsK (g : RN) (mm' : MM) : RN → TM → MM → (TM → MM → Prop) → Prop
  | [], tm, mm, K => K tm mm
  | (i, c) :: r, tm, mm, K => newsK g mm' r tm mm fun tm mm => getK i mm' fun x => match x with
    | .gone => K tm mm
    | x => ABlk.renK g x fun x => setK c x mm fun mm => K tm mm
def killsL : List Nat → TM → MM → (TM → MM → Prop) → Prop
  | [], tm, mm, K => K tm mm
  | c :: r, tm, mm, K => killT c tm fun tm => killM c mm fun mm => setK c .gone mm fun mm => killsL r tm mm K
def numK : Nat → List Nat → (RN → Prop) → Prop
  | _, [], K => K []
  | 0, c :: r, K => numK 1 r fun l => K ((0, c) :: l)
  | 1, c :: r, K => numK 2 r fun l => K ((1, c) :: l)
  | 2, c :: r, K => numK 3 r fun l => K ((2, c) :: l)
  | 3, c :: r, K => numK 4 r fun l => K ((3, c) :: l)
  | _, _ :: _, _ => False
def catR : RN → RN → (RN → Prop) → Prop
  | [], g, K => K g
  | x :: r, g, K => catR r g fun l => K (x :: l)
/-! arguments become data for good -/
mutual
def AV.frzA : AV → TM → MM → (TM → MM → AV → Prop) → Prop
  | .d x, tm, mm, K => K tm mm (.d x)
  | .full x, tm, mm, K => K tm mm (.d x)
  | .ep m f, tm, mm, K => K tm mm (.ep m f)
  | .own b n, tm, mm, K => frzK tm mm (.own b n) fun tm mm x => K tm mm (.d x)
  | .agg l, tm, mm, K => AV.frzsA l tm mm fun tm mm l => K tm mm (.agg l)
  | .fn g l, tm, mm, K => AV.frzsA l tm mm fun tm mm l => K tm mm (.fn g l)
  | .tup l, tm, mm, K => AV.frzsA l tm mm fun tm mm l => K tm mm (.tup l)
  | _, _, _, _ => False
def AV.frzsA : List AV → TM → MM → (TM → MM → List AV → Prop) → Prop
  | [], tm, mm, K => K tm mm []
  | a :: l, tm, mm, K => AV.frzA a tm mm fun tm mm a => AV.frzsA l tm mm fun tm mm l => K tm mm (a :: l)
end
/-- whole rows become data for good -/
def frzOs : List AV → TM → MM → (TM → MM → List AV → Prop) → Prop
  | [], tm, mm, K => K tm mm []
  | a :: l, tm, mm, K => match a with
    | .own b n => frzK tm mm (.own b n) fun tm mm x => frzOs l tm mm fun tm mm l => K tm mm (.d x :: l)
    | a => frzOs l tm mm fun tm mm l => K tm mm (a :: l)
def binK (cx : Cx) (raw : Bool) (op : BinOp) (t : TypeId) (p q : AV) (K : AV → Prop) : Prop :=
  match p, q with
    | .d (.v (.int k x)), .d (.v (.int k' y)) => binInt raw op k x k' y K
    | .d (.v (.string x)), .d (.v (.string y)) => binStr op x y K
    | .d (.v (.bool x)), .d (.v (.bool y)) => boolB cx op t x y K
    | .d r, .d (.v (.slice none 0 0)) => ewK cx t fun _ _ => lenK r fun n => nilEq op n K
    | .own _ n, .d (.v (.slice none 0 0)) => ewK cx t fun _ _ => nilEq op n K
    | .agg l, .agg m => match cx.tb t with
      | some ti => bif cx.eqt t then eqCells ti.zero l m (fun p => ∀ b : Bool, (b = true ↔ p) → match op with
        | .eql => K (.d (.v (.bool b)))
        | .neq => K (.d (.v (.bool (!b))))
        | _ => False) else False
      | none => False
    | _, _ => False
def unK (raw : Bool) (op : UnOp) (a : AV) (K : AV → Prop) : Prop :=
  match op, a with
    | .not, .d (.v (.bool b)) => K (.d (.v (.bool (!b))))
    | .neg, .d (.v (.int k x)) => arithK raw k (0 - x) K
    | _, _ => False
/-- a conversion between kinds of integers -/
def convK (cx : Cx) (src dst : TypeId) (a : AV) (K : AV → Prop) : Prop :=
  match cx.tb src, cx.tb dst with
  | some _, some ti => bif Nat.beq ti.kind 6 then (match a, ti.zero with
    | .d (.v (.int _ n)), [.int k _] => K (.d (.v (.int k (k.wrap n))))
    | _, _ => False) else False
  | _, _ => False
/-- a result that leads to no memory -/
def scalA : AV → Prop
  | .d (.v _) => True
  | _ => False
def scalL : List AV → Prop
  | [] => True
  | a :: r => scalA a ∧ scalL r
def scal : AV → Prop
  | .d (.v _) => True
  | .agg l => scalL l
  | .tup l => scalL l
  | _ => False
/-- a call of one that works on the blocks handed in -/
def heapK (cx : Cx) (dst : Option Nat) (C : List AV → MM → (MM → AV → Prop) → Prop) (l : List AV) (tm : TM) (mm : MM) (K : TM → MM → Prop) : Prop :=
  AV.keysLK l [] fun ks => boxKeys mm ks ks fun ks => zipK ks hks fun f g => AV.rensK f l fun l' => handK f mm f fun m0 =>
    numK 0 (match dst with
      | some d => d :: cx.nk d
      | none => []) fun nw => bif nodupB ks && nodupB (sndL nw) && allLt hk (sndL nw) && !anyIn ks (sndL nw) then
        (C l' m0 fun mm' r => catR g nw fun g => killsL (sndL nw) tm mm fun tm mm => backK g mm' f mm fun mm => newsK g mm' nw tm mm fun tm mm => AV.renK g r fun r => putK cx dst r tm fun tm => K tm mm) else False
/-- a call of one that looks into no block and writes none -/
def viewK (cx : Cx) (dst : Option Nat) (C : List AV → (AV → Prop) → Prop) (l : List AV) (tm : TM) (mm : MM) (K : TM → MM → Prop) : Prop :=
  AV.keysLK l [] fun ks => zipK ks hks fun f g => bif nodupB ks then AV.rensK f l fun l' => C l' fun r => AV.renK g r fun r => putK cx dst r tm fun tm => K tm mm else False
def callK (cx : Cx) (o : Oper) (s : Option SpecE) (l : List AV) (tm : TM) (mm : MM) (K : TM → MM → Prop) : Prop :=
  match s with
  | some (.lend C) => lendsK mm l fun l => C l fun r => scal r ∧ putK cx o.dst r tm fun tm => K tm mm
  | some (.data C) => AV.frzsA l tm mm fun tm mm l => heapK cx o.dst (fun l m k => match m with | [] => C l k | _ => False) l tm mm K
  | some (.heap C) => heapK cx o.dst C l tm mm K
  | some (.view C) => viewK cx o.dst C l tm mm K
  | some (.mix C) => frzOs l tm mm fun tm mm l => heapK cx o.dst C l tm mm K
  | none => False
/-- What a call does, by its specification: the world only grows. -/
def calmS (s : Option SpecE) : Bool :=
  match s with
  | some (.lend _) => true
  | some (.data _) => true
  | some (.view _) => true
  | _ => false
/-- Is a call through a slot taken for one by which the world only grows. -/
def claims (cx : Cx) (o : Oper) : Bool :=
  match o.dst with
  | some d => cx.cm d
  | none => false
def opK (cx : Cx) (o : Oper) (tm : TM) (mm : MM) (K : TM → MM → Prop) : Prop :=
  match o.op with
  | .move x | .assign x => evK cx x tm fun a => putK cx o.dst a tm fun tm => K tm mm
  | .pick c a b => evK cx c tm fun c => boolK c fun c => brK c (evK cx a tm fun a => putK cx o.dst a tm fun tm => K tm mm) (evK cx b tm fun a => putK cx o.dst a tm fun tm => K tm mm)
  | .alloc t => match cx.tb t with
    | some ti => dvsK ti.zero fun cs => match o.dst with
      | some d => newK cx (some d) (.box cs) (.bp d 0) tm mm K
      | none => False
    | none => False
  | .box _ x => evK cx x tm fun a => cellsK a fun cs => match o.dst with
      | some d => newK cx (some d) (.box cs) (.bp d 0) tm mm K
      | none => False
  | .build t ps => buildK cx t ps.toList tm fun a => putK cx o.dst a tm fun tm => K tm mm
  | .buildSlice t n ps => buildSliceK cx o.dst t n ps.toList tm mm K
  | .load t p => evK cx p tm fun a => loadK cx t a mm fun a => putK cx o.dst a tm fun tm => K tm mm
  | .store t p x => evK cx p tm fun a => evK cx x tm fun y => match o.dst with
    | none => storeK cx t a y tm mm K
    | some _ => False
  | .nilCheck x => evK cx x tm fun a => match normA a with
    | .ep m f => putK cx o.dst (.ep m f) tm fun tm => K tm mm
    | .bp b j => putK cx o.dst (.bp b j) tm fun tm => K tm mm
    | .rp b k i j => putK cx o.dst (.rp b k i j) tm fun tm => K tm mm
    | .fn g l => putK cx o.dst (.fn g l) tm fun tm => K tm mm
    | _ => False
  | .binOp op t x y _ => evK cx x tm fun a => evK cx y tm fun b => binK cx (match o.dst with | some d => cx.wm d | none => false) op t a b fun r => putK cx o.dst r tm fun tm => K tm mm
  | .unOp op _ x => evK cx x tm fun a => unK (match o.dst with | some d => cx.wm d | none => false) op a fun r => putK cx o.dst r tm fun tm => K tm mm
  | .convert src dst x => evK cx x tm fun a => convK cx src dst a fun a => putK cx o.dst a tm fun tm => K tm mm
  | .makeFunc fn first caps => match fn with
    | .func g => match first.toList with
      | [] => evsK cx tm caps.toList fun l => putK cx o.dst (.fn g l) tm fun tm => K tm mm
      | _ => False
    | _ => False
  | .makeSlice t l c => evK cx l tm fun a => intK a fun _ l => evK cx c tm fun a => intK a fun _ c => makeSliceK cx o.dst t l c tm mm K
  | .slice t x lo hi mx => evK cx x tm fun a => sliceK cx t a lo hi mx tm fun a => putK cx o.dst a tm fun tm => K tm mm
  | .fieldAddr t x j => evK cx x tm fun a => fieldAddrK cx t a j fun a => putK cx o.dst a tm fun tm => K tm mm
  | .field t x j => evK cx x tm fun a => fieldK cx t a j fun a => putK cx o.dst a tm fun tm => K tm mm
  | .indexAddr t x i => evK cx x tm fun a => evK cx i tm fun i => intK i fun _ i => indexAddrK cx t a i fun a => putK cx o.dst a tm fun tm => K tm mm
  | .index t x i => evK cx x tm fun a => evK cx i tm fun i => intK i fun _ i => indexK cx t a i fun a => putK cx o.dst a tm fun tm => K tm mm
  | .extract x j => evK cx x tm fun a => match a with
    | .tup l => nthK j l fun a => putK cx o.dst a tm fun tm => K tm mm
    | _ => False
  | .call c => evsK cx tm c.args.toList fun l => match c.callee with
    | .builtin b => builtinK cx o b c.argTypes.toList l tm mm K
    | .value f => evK cx f tm fun f => match normA f with
      | .fn g caps => bif !claims cx o || calmS (cx.sp g) then (appAV l caps fun l => callK cx o (cx.sp g) l tm mm K) else False
      | .clo i g caps => match cx.fs i with
        | some (g', s) => bif !claims cx o || calmS (some s) then (Ob (g' = g) ∧ appAV l caps fun l => callK cx o (some s) l tm mm K) else False
        | none => False
      | .yl k T caps => match cx.ys with
        | some C => bif !claims cx o then (match l with
          | [x] => frzOs [x] tm mm fun tm mm l => (match l with
            | [x] => heapK cx o.dst C [.yl k T caps, x] tm mm K
            | _ => False)
          | _ => False) else False
        | none => False
      | _ => False
    | _ => False
  | _ => False

def loadB (o : Oper) : Bool :=
  match o.op with
  | .load _ _ => true
  | _ => false
/-- A value, the world as it is. -/
def pureB (o : Oper) : Bool :=
  match o.op with
  | .move _ => true
  | .assign _ => true
  | .pick _ _ _ => true
  | .build _ _ => true
  | .load _ _ => true
  | .nilCheck _ => true
  | .binOp _ _ _ _ _ => true
  | .unOp _ _ _ => true
  | .convert _ _ _ => true
  | .makeFunc _ _ _ => true
  | .slice _ _ _ _ _ => true
  | .fieldAddr _ _ _ => true
  | .field _ _ _ => true
  | .indexAddr _ _ _ => true
  | .index _ _ _ => true
  | .extract _ _ => true
  | .call c => match c.callee with
    | .builtin b => match b with
      | .len => true
      | .min => true
      | .max => true
      | _ => false
    | _ => false
  | _ => false
def calmB (cx : Cx) (o : Oper) : Bool :=
  match o.op with
  | .alloc _ => true
  | .box _ _ => true
  | .makeSlice _ _ _ => true
  | .buildSlice _ _ _ => true
  | .call c => match c.callee with
    | .value f => match f with
      | .func g => calmS (cx.sp g)
      | _ => claims cx o
    | _ => pureB o
  | _ => pureB o

/-! ### regions, code -/
def gdst (all : List Oper) (j : Nat) (K : Nat → Prop) : Prop :=
  nthK j all fun o => match o.dst with
    | some d => K d
    | none => False
/-- a guard's value; S: it is none (the operation was left out itself) -/
def grdK (a : AV) (K : Bool → Prop) (S : Prop) : Prop :=
  match a with
  | .d (.v (.bool b)) => K b
  | .d (.v _) => S
  | _ => False
def opsK (cx : Cx) (all : List Oper) : List Oper → TM → MM → (TM → MM → Prop) → Prop
  | [], tm, mm, K => K tm mm
  | o :: r, tm, mm, K => match o.guard with
    | none => opK cx o tm mm fun tm mm => opsK cx all r tm mm K
    | some (j, want) => gdst all j fun g => lkK g tm fun a => grdK a (fun b =>
        brK b
          (match want with
            | true => opK cx { o with guard := none } ((g, .d (.v (.bool true))) :: tm) mm fun tm mm => opsK cx all r tm mm K
            | false => putK cx o.dst (.d (.v undef)) ((g, .d (.v (.bool true))) :: tm) fun tm => opsK cx all r tm mm K)
          (match want with
            | false => opK cx { o with guard := none } ((g, .d (.v (.bool false))) :: tm) mm fun tm mm => opsK cx all r tm mm K
            | true => putK cx o.dst (.d (.v undef)) ((g, .d (.v (.bool false))) :: tm) fun tm => opsK cx all r tm mm K))
        (putK cx o.dst (.d (.v undef)) tm fun tm => opsK cx all r tm mm K)
def planK (cx : Cx) (all : List Oper) : Bool → Plan → TM → MM → (TM → MM → Prop) → Prop
  | b, .done, tm, mm, K => match b with
    | true => K tm mm
    | false => True
  | _, .take i p, tm, mm, K => nthK i all fun o => opsK cx all [o] tm mm fun tm mm => planK cx all true p tm mm K
  | _, .alt i p q, tm, mm, K => (nthK i all fun o => opsK cx all [o] tm mm fun tm mm => planK cx all true p tm mm K) ∧ planK cx all false q tm mm K
def arrOf (n : Nat) : List Nat → Array Bool
  | [] => Array.replicate n false
  | i :: r => (arrOf n r).setIfInBounds i true
def Plan.heads : Plan → List Nat
  | .alt i _ q => i :: q.heads
  | _ => []
/-- An operation that can be looked at ahead of all that are left. -/
def freeB (cx : Cx) (ops : Array Oper) (listed : Array Bool) (i : Nat) : Bool :=
  match ops[i]? with
  | none => false
  | some oi => pureB oi && (List.range ops.size).all fun j => j == i || listed.getD j true || match ops[j]? with
      | some oj => oj.after.any (fun e => Region.binds .any e && e.on == i) || (oi.apart ops oj && (!loadB oi || calmB cx oj))
      | none => true
def noSel (o : Oper) : Bool :=
  match o.op with
  | .select _ _ => false
  | _ => true
def planOk (cx : Cx) (ops : Array Oper) : Bool → Plan → List Nat → Bool
  | b, .done, l => !b || (Region.ready .any ops (arrOf ops.size l)).isEmpty
  | b, .take i p, l => b && Nat.blt l.length ops.size && (Region.ready .any ops (arrOf ops.size l)).contains i && freeB cx ops (arrOf ops.size l) i && planOk cx ops true p (i :: l)
  | b, .alt i p q, l => (!b || ((Region.ready .any ops (arrOf ops.size l)).contains i && (Region.ready .any ops (arrOf ops.size l)).all (fun j => (Plan.alt i p q).heads.contains j))) && Nat.blt l.length ops.size && planOk cx ops true p (i :: l) && planOk cx ops false q l
/-- A plan, computed. -/
def planOf (cx : Cx) (ops : Array Oper) : Nat → List Nat → Plan
  | 0, _ => .done
  | n + 1, l =>
    let rs := Region.ready .any ops (arrOf ops.size l)
    match rs.find? (fun i => freeB cx ops (arrOf ops.size l) i) with
    | some i => .take i (planOf cx ops n (i :: l))
    | none => rs.foldr (fun i q => .alt i (planOf cx ops n (i :: l)) q) .done
def dstsL : List Oper → List Nat
  | [] => []
  | o :: r => match o.dst with
    | some d => d :: dstsL r
    | none => dstsL r
def dsts : Code → List Nat
  | .region _ ops _ => dstsL ops.toList
  | .seq a b => dsts a ++ dsts b
  | .cond _ a b => dsts a ++ dsts b
  | .block _ c => dsts c
  | .loop c => dsts c
  | .scope c => dsts c
  | _ => []
/-- without the slots of ds, each of the others once -/
def havocK (ds : List Nat) : TM → (TM → Prop) → Prop
  | [], K => K []
  | (t, a) :: r, K => bif inL t ds then havocK ds r K else havocK (t :: ds) r fun r => K ((t, a) :: r)
def appT : TM → TM → (TM → Prop) → Prop
  | [], m, K => K m
  | (t, a) :: l, m, K => appT l m fun r => K ((t, a) :: r)
def updM : MM → MM → (MM → Prop) → Prop
  | [], mm, K => K mm
  | (b, x) :: r, mm, K => updM r mm fun mm => setK b x mm K
/-- equal as far as evaluation tells them apart -/
def dvEq : DV → DV → Prop
  | .ints k l, .ints k' m => Ob (k = k') ∧ Ob (l = m)
  | .bools l, .bools m => Ob (l = m)
  | .strs l, .strs m => Ob (l = m)
  | .gen k n el, .gen k' n' el' => Ob (k = k') ∧ Ob (n = n') ∧ Ob (∀ i j, i < n → j < k → el i j = el' i j)
  | .v (.int k x), .v (.int k' y) => Ob (k = k') ∧ Ob (x = y)
  | a, b => Ob (a = b)
def avEq : AV → AV → Prop
  | .d x, .d y => dvEq x y
  | _, .top => True
  | a, b => Ob (a = b)
def blkEq : ABlk → ABlk → Prop
  | .row e r, .row e' r' => Ob (e = e') ∧ dvEq r r'
  | a, b => Ob (a = b)
def matchT : TM → TM → Prop
  | [], _ => True
  | (t, a) :: r, tm => lkK t tm (fun b => avEq b a) ∧ matchT r tm
def matchM : MM → MM → Prop
  | [], _ => True
  | (t, a) :: r, mm => getK t mm (fun b => blkEq b a) ∧ matchM r mm
def gatherT : TM → TM → (List AV → List AV → Prop) → Prop
  | [], _, K => K [] []
  | (t, a) :: r, tm, K => lkK t tm fun b => gatherT r tm fun x y => K (b :: x) (a :: y)
def keys : MM → List Nat
  | [] => []
  | (b, _) :: r => b :: keys r
def gatherM (ds : List Nat) : MM → MM → (List ABlk → List ABlk → Prop) → Prop
  | [], _, K => K [] []
  | (t, a) :: r, mm, K => bif inL t ds then gatherM ds r mm K else getK t mm fun b => gatherM (t :: ds) r mm fun x y => K (b :: x) (a :: y)
def nilsK : List (Nat × Nat × TypeId × DV) → TM → MM → (TM → MM → Prop) → Prop
  | [], tm, mm, K => K tm mm
  | (t, b, e, r) :: l, tm, mm, K => lkK t tm fun a => Ob (a = .d (.v (.slice none 0 0)) ∧ r.len = 0 ∧ r.isSl = true ∧ b < hk) ∧
      killT b tm fun tm => killM b mm fun mm => nilsK l ((t, .own b 0) :: tm) ((b, .row e r) :: mm) K
def nilCell (x : AV) : Nat → List AV → (List AV → Prop) → Prop
  | 0, a :: r, K => Ob (a = .d (.v (.slice none 0 0))) ∧ K (x :: r)
  | j + 1, a :: r, K => nilCell x j r fun l => K (a :: l)
  | _, [], _ => False
def bnilsK : List (Nat × Nat × Nat × TypeId × DV) → TM → MM → (TM → MM → Prop) → Prop
  | [], tm, mm, K => K tm mm
  | (c, j, b, e, r) :: l, tm, mm, K => Ob (r.len = 0 ∧ r.isSl = true ∧ b < hk) ∧ killT b tm fun tm => killM b mm fun mm => getK c mm fun x => match x with
    | .box cs => bif Nat.beq c b then False else nilCell (.own b 0) j cs fun cs' => setK c (.box cs') ((b, .row e r) :: mm) fun mm => bnilsK l tm mm K
    | _ => False
def keysT : TM → List Nat → List Nat
  | [], l => l
  | (t, _) :: r, l => t :: keysT r l
def firstId : Code → Nat
  | .region i _ _ => i
  | .seq a _ => firstId a
  | .block _ c => firstId c
  | .loop c => firstId c
  | .scope c => firstId c
  | _ => 0

inductive Ex where
  | normal
  | exit (id : Nat)
  | ret

/-- behind a first part: k goes on; but an exit or a return goes past -/
def seqQ (k : (Ex → TM → MM → Prop) → TM → MM → Prop) (Q : Ex → TM → MM → Prop) (e : Ex) (tm : TM) (mm : MM) : Prop :=
  match e with
  | .normal => k Q tm mm
  | .exit i => Q (.exit i) tm mm
  | .ret => Q .ret tm mm
def blkQ (i : Nat) (Q : Ex → TM → MM → Prop) (e : Ex) (tm : TM) (mm : MM) : Prop :=
  match e with
  | .exit j => bif Nat.beq j i then Q .normal tm mm else Q (.exit j) tm mm
  | .normal => Q .normal tm mm
  | .ret => Q .ret tm mm
def endQ (k : TM → MM → Prop) (Q : Ex → TM → MM → Prop) (e : Ex) (tm : TM) (mm : MM) : Prop :=
  match e with
  | .normal => k tm mm
  | .exit i => Q (.exit i) tm mm
  | .ret => Q .ret tm mm
/-- a loop's annotation, to be named where the loop is come to -/
inductive ExL (id : Nat) (P : LAnn → Prop) : Prop where
  | intro (L : LAnn) (h : P L) : ExL id P
def loopR (ds : List Nat) (body : (Ex → TM → MM → Prop) → TM → MM → Prop) (L : LAnn) (Q : Ex → TM → MM → Prop) (tm : TM) (mm : MM) : Prop :=
  match L with
  | ⟨_, nils, vars, mem, inv, init, meas, bnils⟩ => nilsK nils tm mm fun tm mm => bnilsK bnils tm mm fun tm mm =>
        Ob (inv init) ∧ matchT (vars init) tm ∧ matchM (mem init) mm ∧
        ∀ x, inv x → havocK (keysT (vars init) ds) tm fun tmh => appT (vars x) tmh fun tmx => updM (mem x) mm fun mmx =>
          body (endQ (fun tm' mm' => ∃ y, Ob (inv y ∧ meas y < meas x) ∧ matchT (vars y) tm' ∧ matchM (mem y) mm' ∧
                gatherT tmh tm' (fun a b => Ob (a = b)) ∧ gatherM (keys (mem y)) mm mm' (fun a b => Ob (a = b))) Q) tmx mmx
/-- the slots that a loop's rounds begin with -/
def slotsK (sl : List Nat) (tm : TM) : Nat → Nat → (List AV → Prop) → Prop
  | _, 0, K => K []
  | j, n + 1, K => bif inL j sl then lkK j tm fun a => slotsK sl tm (j + 1) n fun l => K (a :: l) else slotsK sl tm (j + 1) n fun l => K (.top :: l)
/-- behind a loop over a function: on, or by the jump that a round has left -/
def rfEnd (k : Nat) (Q : Ex → TM → MM → Prop) (tm : TM) (mm : MM) : Prop :=
  getK k mm fun x => match x with
    | .lp r => Ob (r.state ≠ .busy) ∧ setK k .gone mm fun mm => (match r.pending with
      | none => Q .normal tm mm
      | some c => match c with
        | .ret => Q .ret tm mm
        | .exit i => Q (.exit i) tm mm
        | _ => False)
    | _ => False
/-- a loop over a function -/
def rfR (cx : Cx) (k : Nat) (sl : List Nat) (g : Operand) (ps : Array Tmp) (assign body : Code) (Q : Ex → TM → MM → Prop) (tm : TM) (mm : MM) : Prop :=
  bif Nat.blt k hk then (killT k tm fun tm => killM k mm fun mm => evK cx g tm fun ga => match normA ga with
    | .fn gf caps => match cx.sp gf with
      | some (.heap C) => slotsK sl tm 0 cx.nt fun ycaps => ∀ (T : List Value) (fn : FuncId) (D : Nat),
          heapK cx none C (.yl k T ycaps :: caps) tm ((k, .lp { state := .ready, pending := none, fn, tmps := T.toArray, params := ps, assign, body, defers := D }) :: mm) (rfEnd k Q)
      | _ => False
    | _ => False) else False
def vc (cx : Cx) : Code → (Ex → TM → MM → Prop) → TM → MM → Prop
  | .skip, Q, tm, mm => Q .normal tm mm
  | .label _, Q, tm, mm => Q .normal tm mm
  | .ret, Q, tm, mm => Q .ret tm mm
  | .exit i, Q, tm, mm => Q (.exit i) tm mm
  | .region id ops dr, Q, tm, mm => match dr with
    | false => opsK cx ops.toList ops.toList tm mm (Q .normal)
    | true => match cx.plan id with
      | some p => Ob (Region.noSelect ops = true ∧ planOk cx ops true p [] = true) ∧ planK cx ops.toList true p tm mm (Q .normal)
      | none => False
  | .seq a b, Q, tm, mm => vc cx a (seqQ (fun Q tm mm => vc cx b Q tm mm) Q) tm mm
  | .cond c a b, Q, tm, mm => evK cx c tm fun x => boolK x fun t => brK t (vc cx a Q tm mm) (vc cx b Q tm mm)
  | .block i c, Q, tm, mm => vc cx c (blkQ i Q) tm mm
  | .scope c, Q, tm, mm => vc cx c Q tm mm
  | .loop c, Q, tm, mm => match cx.ann (firstId c) with
    | none => ExL (firstId c) fun L => loopR (dsts c) (fun Q tm mm => vc cx c Q tm mm) L Q tm mm
    | some L => loopR (dsts c) (fun Q tm mm => vc cx c Q tm mm) L Q tm mm
  | .rangeFunc g ps assign body, Q, tm, mm => match cx.rf with
    | some (k, sl) => rfR cx k sl g ps assign body Q tm mm
    | none => False
  | _, _, _, _ => False
/-- what a function hands back -/
def resK (cx : Cx) : List ResultVar → TM → MM → (List AV → Prop) → Prop
  | [], _, _, K => K []
  | .tmp t :: r, tm, mm, K => lkK t tm fun a => resK cx r tm mm fun l => K (a :: l)
  | .cell a t :: r, tm, mm, K => lkK a tm fun p => loadK cx t p mm fun a => resK cx r tm mm fun l => K (a :: l)
def oneK (l : List AV) (K : AV → Prop) : Prop :=
  match l with
  | [a] => K a
  | l => K (.tup l)
def retQ (cx : Cx) (rs : List ResultVar) (Q : TM → MM → AV → Prop) (e : Ex) (tm : TM) (mm : MM) : Prop :=
  match e with
  | .exit _ => False
  | _ => resK cx rs tm mm fun l => oneK l fun a => Q tm mm a
def entT : Nat → List AV → (TM → Prop) → Prop
  | _, [], K => K []
  | j, a :: r, K => entT (j + 1) r fun tm => K ((j, a) :: tm)
def revK : RN → (RN → Prop) → Prop
  | [], K => K []
  | (a, b) :: r, K => revK r fun l => K ((b, a) :: l)
/-- the blocks that a function hands back: those that it was handed, and those of ks as 0, 1, .. -/
def expK (hs : List Nat) (ks : List Nat) (mm : MM) (r : AV) (K : MM → AV → Prop) : Prop :=
  zipK hs hs fun h _ => numK 0 ks fun nw => catR h nw fun inv => revK inv fun g => handK g mm g fun m => AV.renK g r fun r => K m r
def allGe (n : Nat) : List Nat → Bool
  | [] => true
  | c :: r => bif Nat.ble n c then allGe n r else false
def vcF (cx : Cx) (f : Func) (args : List AV) (mm : MM) (ks : List Nat) (Q : MM → AV → Prop) : Prop :=
  bif Nat.ble (lenL args) cx.nt && (allGe hk (keys mm) && nodupB (keys mm) && (allLt hk ks && nodupB ks)) then (match f.body with
  | some c => entT 0 args fun tm => vc cx c (retQ cx f.results.toList fun _ mm' r => expK (keys mm) ks mm' r Q) tm mm
  | none => False) else False
end Go.Proofs.YtgdcefohfebleaaDoor.V
