/- An executor for the model's code over abstract values: a NaN is one value, blocks of memory are numbered from nought. Nothing is proved here; the soundness is in the texts that follow. -/
import Derived.Still
import Derived.KernelRfl
set_option linter.unusedSimpArgs false
set_option linter.unusedVariables false
namespace Go.Sx

/-- The bits of a float, every NaN being `none`. -/
def nrm (k : FloatKind) (b : Nat) : Option Nat := bif (k.decode b).isNaN then none else some b

inductive AV where
  | junk
  | bool (b : Bool)
  | int (k : IntKind) (n : Int)
  | flt (k : FloatKind) (o : Option Nat)
  | str (s : List UInt8)
  | ptr (b row off : Nat)
  | nilp
  | slc (b row len : Nat)
  | slx (b row off esz len : Nat)
  | slq (q : Bool) (b row len : Nat)
  | nils
  | fn (f : Fn) (first captured : List AV)
  | nilf
  | ifc (t : TypeId) (v : AV)
  | nili
  | agg (l : List AV)
  | tup (l : List AV)
  | lit (v : AV)
  deriving Inhabited

/-- A block of memory: one row (a boxed variable), or rows of one size; `w`: it may be written. -/
inductive Blk where
  | dead
  | one (w : Bool) (l : List AV)
  | rows (w : Bool) (n sz : Nat) (f : Nat → List AV)
  deriving Inhabited

structure St where
  slots : List AV
  heap : List Blk

/-- The real operations on `none`-for-NaN numbers. -/
def fopReal (op : BinOp) (k : FloatKind) (a b : Option Nat) : Option Nat :=
  match a, b with
  | some x, some y =>
    match op with
    | .add => k.format.add x y
    | .sub => k.format.sub x y
    | .mul => k.format.mul x y
    | .quo => k.format.div x y
    | _ => none
  | _, _ => none

def fcmpReal (op : BinOp) (k : FloatKind) (a b : Option Nat) : Bool :=
  let c := match a, b with | some x, some y => k.format.order x y | _, _ => none
  match op with
  | .eql => c == some .eq
  | .neq => c != some .eq
  | .lss => c == some .lt
  | .leq => c == some .lt || c == some .eq
  | .gtr => c == some .gt
  | .geq => c == some .gt || c == some .eq
  | _ => false

def fofIReal (k : FloatKind) (n : Int) : Option Nat := some (k.nearest n)
/-- float32 to float64 -/
def fwideReal (a : Option Nat) : Option Nat := a.map fun x => FloatKind.f64.encode (FloatKind.f32.decode x)
/-- float64 to float32, where the number does not outgrow it -/
def fnarReal (a : Option Nat) : Option Nat := a.map fun x => FloatKind.f32.encode (FloatKind.f64.decode x)
/-- a finite number of double width stays finite -/
def fnarOkReal (a : Option Nat) : Bool :=
  match a with
  | none => true
  | some x => match FloatKind.f64.decode x with
    | .number s m e => !(FloatKind.f32.decode (FloatKind.f32.encode (.number s m e))).isInfinity
    | _ => true
def ftoIReal (k : FloatKind) (_d : IntKind) (a : Option Nat) : Int :=
  match a with | none => 0 | some x => ((k.decode x).toInt .zero).getD 0
def ftoIOkReal (k : FloatKind) (d : IntKind) (a : Option Nat) : Bool :=
  match a with
  | none => false
  | some x => match (k.decode x).toInt .zero with
    | some n => decide (d.min ≤ n ∧ n ≤ d.max)
    | none => false
def fnegReal (k : FloatKind) (a : Option Nat) : Option Nat := a.map fun x => x ^^^ 2 ^ (k.format.exponentBits + k.format.fractionBits)

-- each behind a choice, so that no reduction ever opens it
theorem fop_ex : ∃ g, g = fopReal := ⟨_, rfl⟩
noncomputable def fop : BinOp → FloatKind → Option Nat → Option Nat → Option Nat := fop_ex.choose
theorem fop_eq : fop = fopReal := fop_ex.choose_spec
theorem fcmp_ex : ∃ g, g = fcmpReal := ⟨_, rfl⟩
noncomputable def fcmp : BinOp → FloatKind → Option Nat → Option Nat → Bool := fcmp_ex.choose
theorem fcmp_eq : fcmp = fcmpReal := fcmp_ex.choose_spec
theorem fofI_ex : ∃ g, g = fofIReal := ⟨_, rfl⟩
noncomputable def fofI : FloatKind → Int → Option Nat := fofI_ex.choose
theorem fofI_eq : fofI = fofIReal := fofI_ex.choose_spec
theorem fwide_ex : ∃ g, g = fwideReal := ⟨_, rfl⟩
noncomputable def fwide : Option Nat → Option Nat := fwide_ex.choose
theorem fwide_eq : fwide = fwideReal := fwide_ex.choose_spec
theorem fnar_ex : ∃ g, g = fnarReal := ⟨_, rfl⟩
noncomputable def fnar : Option Nat → Option Nat := fnar_ex.choose
theorem fnar_eq : fnar = fnarReal := fnar_ex.choose_spec
theorem fnarOk_ex : ∃ g, g = fnarOkReal := ⟨_, rfl⟩
noncomputable def fnarOk : Option Nat → Bool := fnarOk_ex.choose
theorem fnarOk_eq : fnarOk = fnarOkReal := fnarOk_ex.choose_spec
theorem ftoI_ex : ∃ g, g = ftoIReal := ⟨_, rfl⟩
noncomputable def ftoI : FloatKind → IntKind → Option Nat → Int := ftoI_ex.choose
theorem ftoI_eq : ftoI = ftoIReal := ftoI_ex.choose_spec
theorem ftoIOk_ex : ∃ g, g = ftoIOkReal := ⟨_, rfl⟩
noncomputable def ftoIOk : FloatKind → IntKind → Option Nat → Bool := ftoIOk_ex.choose
theorem ftoIOk_eq : ftoIOk = ftoIOkReal := ftoIOk_ex.choose_spec
theorem fneg_ex : ∃ g, g = fnegReal := ⟨_, rfl⟩
noncomputable def fneg : FloatKind → Option Nat → Option Nat := fneg_ex.choose
theorem fneg_eq : fneg = fnegReal := fneg_ex.choose_spec

-- lists
def gt : List AV → Nat → AV
  | [], _ => .junk
  | x :: _, 0 => x
  | _ :: t, n + 1 => gt t n

def pt : List AV → Nat → AV → List AV
  | [], _, _ => []
  | _ :: t, 0, v => v :: t
  | x :: t, n + 1, v => x :: pt t n v

/-- cells of a list replaced from a place on; `none` where they do not fit -/
def over : List AV → List AV → Option (List AV)
  | l, [] => some l
  | [], _ :: _ => none
  | _ :: t, c :: cs => (over t cs).map (c :: ·)
def overAt : List AV → Nat → List AV → Option (List AV)
  | l, 0, cs => over l cs
  | [], _ + 1, _ => none
  | x :: t, n + 1, cs => (overAt t n cs).map (x :: ·)
/-- just `n` cells from a place on -/
def cut : List AV → Nat → Option (List AV)
  | _, 0 => some []
  | [], _ + 1 => none
  | x :: t, n + 1 => (cut t n).map (x :: ·)
def cutAt : List AV → Nat → Nat → Option (List AV)
  | l, 0, n => cut l n
  | [], _ + 1, _ => none
  | _ :: t, o + 1, n => cutAt t o n
def at1 : List AV → Nat → Option AV
  | [], _ => none
  | x :: _, 0 => some x
  | _ :: t, n + 1 => at1 t n

/-- the cells of a value that can be stored -/
def AV.scal : AV → Bool
  | .junk | .agg _ | .tup _ | .slq .. => false
  | .lit x => x.scal
  | _ => true
def allScal : List AV → Bool
  | [] => true
  | x :: t => x.scal && allScal t
def AV.cells : AV → Option (List AV)
  | .junk => none
  | .tup _ => none
  | .slq .. => none
  | .lit _ => none
  | .agg l => bif allScal l then some l else none
  | v => some [v]
/-- no pointers in it -/
def AV.flat : AV → Bool
  | .bool _ | .int .. | .flt .. | .str _ | .nilp | .nils | .nilf | .nili => true
  | .lit x => x.flat
  | _ => false
def allFlat : List AV → Bool
  | [] => true
  | x :: t => x.flat && allFlat t
def AV.pure1 : AV → Bool
  | .agg l => allFlat l
  | v => v.flat
def allPure1 : List AV → Bool
  | [] => true
  | x :: t => x.pure1 && allPure1 t
def AV.pure : AV → Bool
  | .tup l => allPure1 l
  | v => v.pure1

def absCell : Value → AV
  | .bool b => .bool b
  | .int k n => .int k n
  | .float k b => bif Nat.blt b (2 ^ k.format.width) then .flt k (nrm k b) else .junk
  | .string s => .str s.data.toList
  | .pointer none => .nilp
  | .slice none 0 0 => .nils
  | .nilFunc => .nilf
  | .nilIface => .nili
  | _ => .junk
def absV : Value → AV
  | .agg cs => .agg (cs.toList.map absCell)
  | v => absCell v

/-- a value that is known, as one that is not -/
def delit : AV → AV
  | .lit x => x
  | x => x
def mkLit : AV → AV
  | .bool b => .lit (.bool b)
  | .int k n => .lit (.int k n)
  | .slx b r o e n => .lit (.slx b r o e n)
  | x => x
def isLit : AV → Bool
  | .lit _ | .nils => true
  | _ => false
def isArr : AV → Bool
  | .ptr .. | .agg _ => true
  | _ => false

def St.raw (st : St) : Operand → AV
  | .tmp t => gt st.slots t
  | .const v => mkLit (absV v)
  | .func f => .fn (.func f) [] []
  | .global _ => .junk
def St.ev (st : St) : Operand → AV
  | .tmp t => delit (gt st.slots t)
  | .const v => absV v
  | .func f => .fn (.func f) [] []
  | .global _ => .junk

def isAggT (P : Program) (t : TypeId) : Option Bool :=
  match P.underlying t with
  | some (.struct _) => some true
  | some (.array _ _) => some true
  | some _ => some false
  | none => none
def szT (P : Program) (t : TypeId) : Option Nat :=
  match P.info? t with
  | some i => some i.size
  | none => none
def zeroT (P : Program) (t : TypeId) : Option AV :=
  match P.info? t with
  | some i => match i.zero with | some v => some (absV v) | none => none
  | none => none

/-- the row of a block, and whether it is there -/
def rowOf : List Blk → Nat → Nat → Option (List AV × Bool)
  | [], _, _ => none
  | .one _ l :: _, 0, r => match r with | 0 => some (l, true) | _ + 1 => none
  | .rows _ n _ f :: _, 0, r => some (f r, Nat.blt r n)
  | .dead :: _, 0, _ => none
  | _ :: t, b + 1, r => rowOf t b r

def ikEq : IntKind → IntKind → Bool
  | .i8, .i8 | .i16, .i16 | .i32, .i32 | .i64, .i64 | .u8, .u8 | .u16, .u16 | .u32, .u32 | .u64, .u64 => true
  | _, _ => false
def fkEq : FloatKind → FloatKind → Bool
  | .f32, .f32 | .f64, .f64 => true
  | _, _ => false

/-- two plain values, by a test -/
def mS (b : Bool) (v w : AV) : Option AV :=
  match v, w with
  | .bool x, .bool y => some (.bool (cond b x y))
  | .int k x, .int k' y => bif ikEq k k' then some (.int k (cond b x y)) else none
  | .flt k x, .flt k' y => bif fkEq k k' then some (.flt k (cond b x y)) else none
  | .str x, .str y => some (.str (cond b x y))
  | _, _ => none

/-- two cells by a test; where they can't be told as one the test stays -/
def mC (b : Bool) (x y : AV) : AV :=
  match mS b (delit x) (delit y) with
  | some v => v
  | none => match delit x, delit y with
    | .slc p r n, .slc p' r' n' => .slc (cond b p p') (cond b r r') (cond b n n')
    | x, y => cond b x y
def mRow (b : Bool) : List AV → List AV → List AV
  | x :: xs, y :: ys => mC b x y :: mRow b xs ys
  | [], [] => []
  | xs, ys => bif b then xs else ys
def upd (f : Nat → List AV) (r : Nat) (l : List AV) : Nat → List AV := fun i => mRow (Nat.beq i r) l (f i)
/-- rows put behind rows -/
def catF (n : Nat) (f g : Nat → List AV) : Nat → List AV := fun i => mRow (Nat.blt i n) (f i) (g (i - n))
/-- rows put over rows, from `a` on, `k` of them -/
def overF (a k : Nat) (g f : Nat → List AV) : Nat → List AV := fun i => mRow (Nat.ble a i && Nat.blt i (a + k)) (g (i - a)) (f i)
def shF (f : Nat → List AV) (r : Nat) : Nat → List AV := fun i => f (i + r)
def blkOf : List Blk → Nat → Option Blk
  | [], _ => none
  | x :: _, 0 => some x
  | _ :: t, n + 1 => blkOf t n
def setB : List Blk → Nat → Blk → List Blk
  | [], _, _ => []
  | _ :: t, 0, y => y :: t
  | x :: t, n + 1, y => x :: setB t n y

/-- cells stored in a row of a block -/
def putRow : List Blk → Nat → Nat → Nat → List AV → Option (List Blk × Bool)
  | [], _, _, _, _ => none
  | .one w l :: t, 0, r, o, cs => match r with
    | 0 => bif w then (match overAt l o cs with | some l' => some (.one w l' :: t, true) | none => none) else none
    | _ + 1 => none
  | .rows w n sz f :: t, 0, r, o, cs =>
    bif w then (match overAt (f r) o cs with | some l' => some (.rows w n sz (upd f r l') :: t, Nat.blt r n) | none => none) else none
  | .dead :: _, 0, _, _, _ => none
  | x :: t, b + 1, r, o, cs => match putRow t b r o cs with | some (t', ob) => some (x :: t', ob) | none => none

def loadA (P : Program) (H : List Blk) (t : TypeId) (a : AV) : Option (AV × Bool) :=
  match a with
  | .ptr b r o =>
    match rowOf H b r, isAggT P t with
    | some (l, ob), some true => match szT P t with
      | some n => match cutAt l o n with | some cs => some (.agg cs, ob) | none => none
      | none => none
    | some (l, ob), some false => match at1 l o with | some v => some (v, ob) | none => none
    | _, _ => none
  | _ => none

def bsz : List Blk → Nat → Option Nat
  | [], _ => none
  | .one _ l :: _, 0 => some l.length
  | .rows _ _ sz _ :: _, 0 => some sz
  | .dead :: _, 0 => none
  | _ :: t, b + 1 => bsz t b

def addOff (a : AV) (n : Nat) : Option AV :=
  match a with
  | .ptr b r o => some (.ptr b r (o + n))
  | _ => none

def partA (P : Program) (t : TypeId) (l : List AV) (o : Nat) : Option AV :=
  match isAggT P t with
  | some true => match szT P t with
    | some n => match cutAt l o n with | some cs => some (.agg cs) | none => none
    | none => none
  | some false => at1 l o
  | none => none

def inB (i : Int) (n : Nat) : Bool := decide (0 ≤ i) && decide (i < (n : Int))

def bytesLt (a b : List UInt8) : Bool := Op.bytesLess a b

def bitsReal (op : BinOp) (k : IntKind) (x y : Int) : Int :=
  let a := BitVec.ofInt k.bits x
  let b := BitVec.ofInt k.bits y
  match op with
  | .and => k.wrap (a &&& b).toNat
  | .or => k.wrap (a ||| b).toNat
  | .xor => k.wrap (a ^^^ b).toNat
  | _ => k.wrap (a &&& ~~~b).toNat
/-- the same; it stands still where the number is not known -/
def bitsOp (op : BinOp) (k : IntKind) (x y : Int) : Int := match x with
  | .ofNat a => bitsReal op k (.ofNat a) y
  | .negSucc a => bitsReal op k (.negSucc a) y
theorem bitsOp_eq (op : BinOp) (k : IntKind) (x y : Int) : bitsOp op k x y = bitsReal op k x y := by cases x <;> rfl

def binI (op : BinOp) (k : IntKind) (a b : Int) : Option (AV × Bool) :=
  match op with
  | .add => some (.int k (k.wrap (a + b)), true)
  | .sub => some (.int k (k.wrap (a - b)), true)
  | .mul => some (.int k (k.wrap (a * b)), true)
  | .quo => some (.int k (k.wrap (a.tdiv b)), !(b == 0))
  | .rem => some (.int k (a.tmod b), !(b == 0))
  | .and | .or | .xor | .andNot => some (.int k (bitsOp op k a b), true)
  | .eql => some (.bool (a == b), true)
  | .neq => some (.bool (a != b), true)
  | .lss => some (.bool (decide (a < b)), true)
  | .leq => some (.bool (decide (a ≤ b)), true)
  | .gtr => some (.bool (decide (a > b)), true)
  | .geq => some (.bool (decide (a ≥ b)), true)
  | _ => none

noncomputable def binF (op : BinOp) (k : FloatKind) (a b : Option Nat) : Option (AV × Bool) :=
  match op with
  | .add | .sub | .mul | .quo => some (.flt k (fop op k a b), true)
  | .eql | .neq | .lss | .leq | .gtr | .geq => some (.bool (fcmp op k a b), true)
  | _ => none

def binS (op : BinOp) (a b : List UInt8) : Option (AV × Bool) :=
  match op with
  | .add => some (.str (a ++ b), Nat.ble (a.length + b.length) 9223372036854775807)
  | .eql => some (.bool (a == b), true)
  | .neq => some (.bool (!(a == b)), true)
  | .lss => some (.bool (Op.bytesLess a b), true)
  | .leq => some (.bool (Op.bytesLess a b || a == b), true)
  | .gtr => some (.bool (!(Op.bytesLess a b || a == b)), true)
  | .geq => some (.bool (!Op.bytesLess a b), true)
  | _ => none

noncomputable def eqEs (g : Nat → Option Bool) : Nat → Nat → Option Bool
  | 0, _ => some true
  | n + 1, i => match g i, eqEs g n (i + 1) with | some a, some b => some (a && b) | _, _ => none
noncomputable def eqFs (g : Field → Option Bool) : List Field → Option Bool
  | [] => some true
  | f :: t => bif f.name == "_" then none else match g f, eqFs g t with | some a, some b => some (a && b) | _, _ => none

/-- '==' as the model goes through a type -/
noncomputable def eqT (P : Program) : Nat → TypeId → AV → AV → Option Bool
  | 0, _, _, _ => none
  | d + 1, t, x, y =>
    match P.underlying t, delit x, delit y with
    | some .bool, .bool a, .bool b => some (a == b)
    | some (.int _), .int k a, .int k' b => bif ikEq k k' then some (a == b) else none
    | some .string, .str a, .str b => some (a == b)
    | some (.float _), .flt k a, .flt k' b => bif fkEq k k' then some (fcmp .eql k a b) else none
    | some (.struct fs), .agg xs, .agg ys => bif P.stoodInHeld t then none else
      eqFs (fun f => match partA P f.type xs f.offset, partA P f.type ys f.offset with | some u, some v => eqT P d f.type u v | _, _ => none) fs.toList
    | some (.array n e), .agg xs, .agg ys => match szT P e with
      | some m => eqEs (fun i => match partA P e xs (i * m), partA P e ys (i * m) with | some u, some v => eqT P d e u v | _, _ => none) n 0
      | none => none
    | _, _, _ => none

noncomputable def binA (P : Program) (op : BinOp) (t : TypeId) (x y : AV) : Option (AV × Bool) :=
  match op, x, y with
  | .shl, .int k a, .int _ b => some (.int k (k.wrap (a * 2 ^ (min b.toNat k.bits))), decide (0 ≤ b))
  | .shr, .int k a, .int _ b => some (.int k (a.fdiv (2 ^ (min b.toNat k.bits))), decide (0 ≤ b))
  | op, .int k a, .int k' b => bif ikEq k k' then binI op k a b else none
  | op, .flt k a, .flt k' b => bif fkEq k k' then binF op k a b else none
  | op, .str a, .str b => binS op a b
  | .eql, .bool a, .bool b => match eqT P 8 t (.bool a) (.bool b) with | some r => some (.bool r, true) | none => none
  | .neq, .bool a, .bool b => match eqT P 8 t (.bool a) (.bool b) with | some r => some (.bool (!r), true) | none => none
  | .eql, .slq q _ _ _, .nils => match P.underlying t with | some (.slice _) => some (.bool q, true) | _ => none
  | .neq, .slq q _ _ _, .nils => match P.underlying t with | some (.slice _) => some (.bool (!q), true) | _ => none
  | .eql, .agg a, .agg b => bif P.eqGuardType P.depth t then none else match eqT P 8 t (.agg a) (.agg b) with | some r => some (.bool r, true) | none => none
  | .neq, .agg a, .agg b => bif P.eqGuardType P.depth t then none else match eqT P 8 t (.agg a) (.agg b) with | some r => some (.bool (!r), true) | none => none
  | _, _, _ => none

noncomputable def unA (op : UnOp) (x : AV) : Option AV :=
  match op, x with
  | .not, .bool b => some (.bool (!b))
  | .neg, .int k n => some (.int k (k.wrap (0 - n)))
  | .neg, .flt k o => some (.flt k (fneg k o))
  | _, _ => none

noncomputable def convA (P : Program) (s d : TypeId) (x : AV) : Option (AV × Bool) :=
  match P.underlying s, P.underlying d, x with
  | some _, some (.int k), .int _ n => some (.int k (k.wrap n), true)
  | some _, some (.float k), .int _ n => some (.flt k (fofI k n), true)
  | some _, some (.int k), .flt fk o => some (.int k (ftoI fk k o), ftoIOk fk k o)
  | some _, some (.float k), .flt s o => match k, s with
    | .f64, .f32 => some (.flt .f64 (fwide o), true)
    | .f32, .f64 => some (.flt .f32 (fnar o), fnarOk o)
    | k, _ => some (.flt k o, true)
  | some .string, some .string, .str a => some (.str a, true)
  | _, _, _ => none

def bndA (d : Int) : Option AV → Option Int
  | none => some d
  | some (.int _ i) => some i
  | _ => none

def sliceA (P : Program) (H : List Blk) (t : TypeId) (x : AV) (lo hi : Option AV) (mx : Bool) : Option (AV × Bool) :=
  match mx, P.underlying t, x with
  | true, _, _ => none
  | false, some (.array n e), .ptr b r o =>
    match szT P e, bndA 0 lo, bndA n hi with
    | some sz, some l, some h => some (.slx b r (o + l.toNat * sz) sz (h.toNat - l.toNat), decide (0 ≤ l) && decide (l ≤ h) && decide (h ≤ (n : Int)))
    | _, _, _ => none
  | false, some .string, .str s =>
    match bndA 0 lo, bndA s.length hi with
    | some l, some h => some (.str ((s.take h.toNat).drop l.toNat), decide (0 ≤ l) && decide (l ≤ h) && decide (h ≤ (s.length : Int)))
    | _, _ => none
  | false, some (.slice e), .slc b r n =>
    match szT P e, bsz H b, bndA 0 lo, bndA n hi with
    | some sz, some sz', some l, some h =>
      bif Nat.beq sz sz' then some (.slc b (l.toNat + r) (h.toNat - l.toNat), decide (0 ≤ l) && decide (l ≤ h) && (decide (h ≤ (n : Int)) || match blkOf H b with | some (.rows _ m _ _) => decide ((r : Int) + h ≤ m) | _ => false)) else none
    | _, _, _, _ => none
  | _, _, _ => none

/-- what a call gives: a value, and whether it may be trusted -/
abbrev Caller := FuncId → List AV → List Blk → Option (AV × Bool)

def minI : List AV → IntKind → Int → Option AV
  | [], k, m => some (.int k m)
  | .int k' y :: t, k, m => bif ikEq k k' then minI t k (if y < m then y else m) else none
  | _ :: _, _, _ => none
def maxI : List AV → IntKind → Int → Option AV
  | [], k, m => some (.int k m)
  | .int k' y :: t, k, m => bif ikEq k k' then maxI t k (if y > m then y else m) else none
  | _ :: _, _, _ => none

def fmin2Real (k : FloatKind) (x y : Option Nat) : Option Nat :=
  match x, y with
  | some x, some y => match k.format.order x y with
    | none => none
    | some .lt => some x
    | some .gt => some y
    | some .eq => some (if (k.decode x).neg then x else y)
  | _, _ => none
def fmax2Real (k : FloatKind) (x y : Option Nat) : Option Nat :=
  match x, y with
  | some x, some y => match k.format.order x y with
    | none => none
    | some .lt => some y
    | some .gt => some x
    | some .eq => some (if (k.decode x).neg then y else x)
  | _, _ => none
theorem fmin2_ex : ∃ g, g = fmin2Real := ⟨_, rfl⟩
noncomputable def fmin2 : FloatKind → Option Nat → Option Nat → Option Nat := fmin2_ex.choose
theorem fmin2_eq : fmin2 = fmin2Real := fmin2_ex.choose_spec
theorem fmax2_ex : ∃ g, g = fmax2Real := ⟨_, rfl⟩
noncomputable def fmax2 : FloatKind → Option Nat → Option Nat → Option Nat := fmax2_ex.choose
theorem fmax2_eq : fmax2 = fmax2Real := fmax2_ex.choose_spec

noncomputable def minF : List AV → FloatKind → Option Nat → Option AV
  | [], k, m => some (.flt k m)
  | .flt k' y :: t, k, m => bif fkEq k k' then minF t k (fmin2 k m y) else none
  | _ :: _, _, _ => none
noncomputable def maxF : List AV → FloatKind → Option Nat → Option AV
  | [], k, m => some (.flt k m)
  | .flt k' y :: t, k, m => bif fkEq k k' then maxF t k (fmax2 k m y) else none
  | _ :: _, _, _ => none

noncomputable def builtinA (P : Program) (b : Builtin) (argTypes : Array TypeId) (args : List AV) : Option AV :=
  match b, args with
  | .len, [x] => match argTypes[0]? with
    | some t => match P.underlying t, x with
      | some .string, .str s => some (.int .i64 s.length)
      | some (.array n _), _ => some (.int .i64 n)
      | some (.slice _), .slc _ _ n => some (.int .i64 n)
      | some (.slice _), .slx _ _ _ _ n => some (.int .i64 n)
      | some (.slice _), .nils => some (.int .i64 0)
      | _, _ => none
    | none => none
  | .min, .int k x :: t => minI t k x
  | .max, .int k x :: t => maxI t k x
  | .min, .flt k x :: t => minF t k x
  | .max, .flt k x :: t => maxF t k x
  | _, _ => none

def evL (st : St) : List Operand → List AV
  | [] => []
  | x :: t => st.ev x :: evL st t
def rawL (st : St) : List Operand → List AV
  | [] => []
  | x :: t => st.raw x :: rawL st t

def fillA (P : Program) (place : Nat → Option (Nat × Nat)) : List AV → List (Nat × AV) → Option (List AV)
  | l, [] => some l
  | l, (i, v) :: t => match place i, v.cells with
    | some (o, n), some cs => bif Nat.beq cs.length n then (match overAt l o cs with | some l' => fillA P place l' t | none => none) else none
    | _, _ => none
def evP (st : St) : List (Nat × Operand) → List (Nat × AV)
  | [] => []
  | (i, x) :: t => (i, st.ev x) :: evP st t

def plcL (P : Program) : List Field → Option (List (Nat × Nat))
  | [] => some []
  | f :: t => match szT P f.type, plcL P t with | some n, some r => some ((f.offset, n) :: r) | _, _ => none
def at2 : List (Nat × Nat) → Nat → Option (Nat × Nat)
  | [], _ => none
  | x :: _, 0 => some x
  | _ :: t, n + 1 => at2 t n

def buildA (P : Program) (t : TypeId) (parts : List (Nat × AV)) : Option AV :=
  match zeroT P t, P.underlying t with
  | some (.agg z), some (.struct fs) => match plcL P fs.toList with
    | some pl => match fillA P (at2 pl) z parts with
      | some l => some (.agg l)
      | none => none
    | none => none
  | some (.agg z), some (.array _ e) => match szT P e with
    | some n => match fillA P (fun i => some (i * n, n)) z parts with
      | some l => some (.agg l)
      | none => none
    | none => none
  | _, _ => none

/-- operations that leave memory as it is -/
noncomputable def evV0 (P : Program) (call : Caller) (st : St) (o : Oper) : Option (AV × Bool) :=
  match o.op with
  | .move x => some (st.ev x, true)
  | .assign x => some (st.ev x, true)
  | .pick c a b => match st.ev c, st.ev a, st.ev b with
    | .bool t, .bool x, .bool y => some (.bool (cond t x y), true)
    | _, _, _ => none
  | .build t parts => match buildA P t (evP st parts.toList) with | some v => some (v, true) | none => none
  | .load t a => loadA P st.heap t (st.ev a)
  | .nilCheck x => match st.ev x with
    | .ptr b r o => some (.ptr b r o, true)
    | .fn (.func f) a b => some (.fn (.func f) a b, true)
    | _ => none
  | .binOp op t x y _ => binA P op t (st.ev x) (st.ev y)
  | .unOp op _ x => match unA op (st.ev x) with | some v => some (v, true) | none => none
  | .convert s d x => convA P s d (st.ev x)
  | .makeFunc fn first captured => some (.fn fn (evL st first.toList) (evL st captured.toList), true)
  | .slice t x lo hi mx => sliceA P st.heap t (st.ev x) (lo.map st.ev) (hi.map st.ev) mx.isSome
  | .fieldAddr s x f => match P.underlying s with
    | some (.struct fs) => match fs[f]? with
      | some fd => match szT P fd.type with
        | some (_ + 1) => match addOff (st.ev x) fd.offset with | some v => some (v, true) | none => none
        | _ => none
      | none => none
    | _ => none
  | .field t x f => match P.underlying t, st.ev x with
    | some (.struct fs), .agg l => match fs[f]? with
      | some fd => match partA P fd.type l fd.offset with | some v => some (v, true) | none => none
      | none => none
    | _, _ => none
  | .indexAddr t x ix => match P.underlying t, st.ev x, st.ev ix with
    | some (.array n e), .ptr b r o, .int _ i => match szT P e with
      | some sz => some (.ptr b r (o + i.toNat * sz), inB i n)
      | none => none
    | some (.slice e), .slc b r n, .int _ i => match szT P e, bsz st.heap b with
      | some sz, some sz' => bif Nat.beq sz sz' then some (.ptr b (i.toNat + r) 0, inB i n) else none
      | _, _ => none
    | some (.slice e), .slx b r o sz n, .int _ i => match szT P e with
      | some sz' => bif Nat.beq sz sz' then some (.ptr b r (o + i.toNat * sz), inB i n) else none
      | none => none
    | _, _, _ => none
  | .index t x ix => match P.underlying t, st.ev x, st.ev ix with
    | some (.array n e), .agg l, .int _ i => match szT P e with
      | some sz => match partA P e l (i.toNat * sz) with | some v => some (v, inB i n) | none => none
      | none => none
    | some .string, .str s, .int _ i => some (.int .u8 ((s.getD i.toNat 0).toNat : Int), inB i s.length)
    | _, _, _ => none
  | .extract t i => match st.ev t with
    | .tup l => match at1 l i with | some v => some (v, true) | none => none
    | _ => none
  | .call c => match c.callee with
    | .builtin b => match builtinA P b c.argTypes (evL st c.args.toList) with | some v => some (v, true) | none => none
    | .value f => match st.ev f with
      | .fn (.func f) first captured => call f (first ++ rawL st c.args.toList ++ captured) st.heap
      | _ => none
    | _ => none
  | _ => none

def litO (st : St) : Option Operand → Bool
  | none => true
  | some x => isLit (st.raw x)
def litL (st : St) : List Operand → Bool
  | [] => true
  | x :: t => (isLit (st.raw x) || isArr (st.raw x)) && litL st t
/-- does an operation give what is known -/
def litOp (st : St) (o : Oper) : Bool :=
  match o.op with
  | .move x => isLit (st.raw x)
  | .assign x => isLit (st.raw x)
  | .pick c a b => isLit (st.raw c) && isLit (st.raw a) && isLit (st.raw b)
  | .binOp _ _ x y _ => isLit (st.raw x) && isLit (st.raw y)
  | .unOp _ _ x => isLit (st.raw x)
  | .convert _ _ x => isLit (st.raw x)
  | .slice _ x lo hi _ => (isLit (st.raw x) || isArr (st.raw x)) && litO st lo && litO st hi
  | .call c => match c.callee with
    | .builtin _ => litL st c.args.toList
    | _ => false
  | _ => false

noncomputable def evV (P : Program) (call : Caller) (st : St) (o : Oper) : Option (AV × Bool) :=
  match evV0 P call st o with
  | some (v, ob) => some (bif litOp st o then mkLit v else v, ob)
  | none => none

def rep (l : List AV) : Nat → List AV
  | 0 => []
  | n + 1 => l ++ rep l n

def isSliceT (P : Program) (t : TypeId) : Bool := match P.underlying t with | some (.slice _) => true | _ => false
/-- what a type of elements says: cells of a row, a row of noughts -/
def elemA (P : Program) (t : TypeId) : Option (Nat × List AV) :=
  match P.underlying t with
  | some (.slice e) => match P.info? e, zeroT P e with
    | some i, some z => match z.cells with
      | some zc => bif Nat.beq zc.length i.size && Nat.blt 0 i.size && Nat.ble i.bytes 128 then some (i.size, zc) else none
      | none => none
    | _, _ => none
  | _ => none
def few : Nat := 1099511627776
def makeA (P : Program) (H : List Blk) (t : TypeId) (l c : AV) : Option (AV × List Blk × Bool) :=
  match elemA P t, l, c with
  | some (sz, zc), .int _ l, .int _ c => some (.slc H.length 0 l.toNat, H ++ [.rows true l.toNat sz (fun _ => zc)], decide (0 ≤ l) && decide (l ≤ c) && decide (c ≤ (few : Int)))
  | _, _, _ => none
/-- an empty slice without room -/
def is0 : Int → Bool
  | .ofNat 0 => true
  | _ => false
def fullA (P : Program) (H : List Blk) (t : TypeId) (x : AV) (lo hi : Option AV) (m : AV) : Option (AV × List Blk × Bool) :=
  match elemA P t, x, bndA 0 lo, hi, m with
  | some (sz, zc), .slc _ _ _, some l, some (.int _ h), .int _ m => bif is0 l && is0 h && is0 m then some (.slc H.length 0 0, H ++ [.rows true 0 sz (fun _ => zc)], true) else none
  | some (sz, zc), .nils, some l, some (.int _ h), .int _ m => bif is0 l && is0 h && is0 m then some (.slc H.length 0 0, H ++ [.rows true 0 sz (fun _ => zc)], true) else none
  | _, _, _, _, _ => none
/-- append: the old block is gone, there is a new one; appended to itself: over itself -/
def appendA (P : Program) (H : List Blk) (t : TypeId) (s x : AV) : Option (AV × List Blk × Bool) :=
  match elemA P t, s, x with
  | some (sz, _), .slc b r n, .slc c q m => match blkOf H b, blkOf H c with
    | some (.rows true N sz1 f), some (.rows _ M sz2 g) => bif Nat.beq sz sz1 && Nat.beq sz sz2 then
        bif Nat.beq b c then some (.slc b r (n + m), setB H b (.rows true N sz (overF (r + n) m (shF f q) f)), Nat.ble (r + n + m) N && Nat.ble (q + m) N && Nat.ble (n + m) few)
        else some (.slc H.length 0 (n + m), setB H b .dead ++ [.rows true (n + m) sz (catF n (shF f r) (shF g q))], Nat.ble (r + n) N && Nat.ble (q + m) M && Nat.ble (n + m) few)
      else none
    | _, _ => none
  | some (sz, _), .nils, .slc c q m => match blkOf H c with
    | some (.rows _ M sz2 g) => bif Nat.beq sz sz2 then some (.slc H.length 0 m, H ++ [.rows true m sz (shF g q)], Nat.ble (q + m) M && Nat.ble m few) else none
    | _ => none
  | some (sz, _), .slc b r n, .nils => match blkOf H b with
    | some (.rows true N sz1 f) => bif Nat.beq sz sz1 then some (.slc H.length 0 n, setB H b .dead ++ [.rows true n sz (shF f r)], Nat.ble (r + n) N && Nat.ble n few) else none
    | _ => none
  | _, _, _ => none
/-- a slice, whether it is nil or not -/
def unq : AV → AV
  | .slq _ b r n => .slc b r n
  | x => x
def copyA (P : Program) (H : List Blk) (t : TypeId) (d x : AV) : Option (AV × List Blk × Bool) :=
  match elemA P t, d, x with
  | some (sz, _), .slc b r n, .slc c q m => match blkOf H b, blkOf H c with
    | some (.rows true N sz1 f), some (.rows _ M sz2 g) => bif Nat.beq sz sz1 && Nat.beq sz sz2 then
        some (.int .i64 ((bif Nat.ble m n then m else n : Nat) : Int), setB H b (.rows true N sz (overF r (bif Nat.ble m n then m else n) (shF g q) f)), Nat.ble (r + n) N && Nat.ble (q + m) M)
      else none
    | _, _ => none
  | _, _, _ => none
def clearA (P : Program) (H : List Blk) (t : TypeId) (d : AV) : Option (AV × List Blk × Bool) :=
  match elemA P t, d with
  | some (sz, zc), .slc b r n => match blkOf H b with
    | some (.rows true N sz1 f) => bif Nat.beq sz sz1 then some (.junk, setB H b (.rows true N sz (overF r n (fun _ => zc) f)), Nat.ble (r + n) N) else none
    | _ => none
  | _, _ => none

/-- the bytes of a slice -/
def strF (f : Nat → List AV) (r : Nat) : Nat → Option (List UInt8)
  | 0 => some []
  | n + 1 => match f r with
    | [x] => match delit x with
      | .int .u8 y => match strF f (r + 1) n with | some t => some (UInt8.ofNat y.toNat :: t) | none => none
      | _ => none
    | _ => none
def strA (P : Program) (H : List Blk) (s d : TypeId) (x : AV) : Option (List UInt8 × Bool) :=
  match P.underlying s, P.underlying d, x with
  | some (.slice e), some .string, .slc b r n => match P.underlying e, blkOf H b with
    | some (.int .u8), some (.rows _ m 1 f) => match strF f r n with | some l => some (l, Nat.ble (r + n) m) | none => none
    | _, _ => none
  | _, _, _ => none
/-- a slice of three numbers: only that it is one -/
def slice3A (P : Program) (t : TypeId) (x : AV) (lo : Option AV) (hi : Option AV) (m : AV) : Option Bool :=
  match P.underlying t, x, bndA 0 lo, hi, m with
  | some (.slice e), .slc _ _ n, some l, some (.int _ h), .int _ m => match szT P e with
    | some _ => some (decide (0 ≤ l) && decide (l ≤ h) && decide (h ≤ m) && decide (m ≤ (n : Int)))
    | none => none
  | _, _, _, _, _ => none
/-- operations that make memory or write it -/
def evH (P : Program) (st : St) (o : Oper) : Option (AV × List Blk × Bool) :=
  match o.op with
  | .alloc t => match zeroT P t with
    | some z => match z.cells with
      | some l => some (.ptr st.heap.length 0 0, st.heap ++ [.one true l], true)
      | none => none
    | none => none
  | .box _ x => match (st.ev x).cells with
    | some l => some (.ptr st.heap.length 0 0, st.heap ++ [.one true l], true)
    | none => none
  | .store t a x => match st.ev a, (st.ev x).cells, szT P t with
    | .ptr b r o, some cs, some n => bif Nat.beq cs.length n then (match putRow st.heap b r o cs with
      | some (H, ob) => some (.junk, H, ob)
      | none => none) else none
    | _, _, _ => none
  | .buildSlice t len parts => match P.underlying t with
    | some (.slice e) => match szT P e, zeroT P e with
      | some sz, some z => match z.cells with
        | some zc => bif Nat.ble (len * sz) 16777216 && Nat.beq zc.length sz && Nat.blt 0 sz then (match fillA P (fun i => some (i * sz, sz)) (rep zc len) (evP st parts.toList) with
          | some l => bif allScal l then some (.slc st.heap.length 0 len, st.heap ++ [.rows true len sz (fun i => bif Nat.blt i len then (l.drop (i * sz)).take sz else zc)], true) else none
          | none => none) else none
        | none => none
      | _, _ => none
    | _ => none
  | .makeSlice t l c => makeA P st.heap t (st.ev l) (st.ev c)
  | .convert s d x => match strA P st.heap s d (st.ev x) with | some (l, ob) => some (.str l, st.heap, ob) | none => none
  | .slice t x lo hi (some (.tmp m)) => match slice3A P t (st.ev x) (lo.map st.ev) (hi.map st.ev) (st.ev (.tmp m)) with | some ob => some (.junk, st.heap, ob) | none => none
  | .slice t x lo hi (some (.const m)) => fullA P st.heap t (st.ev x) (lo.map st.ev) (hi.map st.ev) (absV m)
  | .call c => match c.callee, c.args.toList, c.argTypes.toList with
    | .builtin .append, [s, x], [t, u] => bif isSliceT P u then appendA P st.heap t (st.ev s) (unq (st.ev x)) else none
    | .builtin .copy, [d, x], [t, u] => bif isSliceT P u then copyA P st.heap t (st.ev d) (st.ev x) else none
    | .builtin .clear, [d], [t] => clearA P st.heap t (st.ev d)
    | _, _, _ => none
  | _ => none

def putDst (st : St) (d : Option Tmp) (v : AV) : St :=
  match d with
  | some t => ⟨pt st.slots t v, st.heap⟩
  | none => st

def impB (g ob : Bool) : Bool := match ob with | true => true | false => !g
def andB (a b : Bool) : Bool := match a with | true => b | false => false

/-- operations that are not asked for leave nothing -/
def junkAll (st : St) : List Oper → St
  | [] => st
  | o :: t => junkAll (putDst st o.dst .junk) t

def memG (asm : List (Nat × Bool)) (g : Nat × Bool) : Bool :=
  match asm with
  | [] => false
  | (j, b) :: t => (Nat.beq j g.1 && (match b, g.2 with | true, true => true | false, false => true | _, _ => false)) || memG t g

/-- is the operation guarded by a guard that is not yet decided -/
def openG (asm : List (Nat × Bool)) (o : Oper) : Bool :=
  match o.guard with
  | none => false
  | some g => !memG asm g

def takeG (asm : List (Nat × Bool)) : List Oper → List Oper
  | [] => []
  | o :: t => bif openG asm o then o :: takeG asm t else []
def dropG (asm : List (Nat × Bool)) : List Oper → List Oper
  | [] => []
  | o :: t => bif openG asm o then dropG asm t else o :: t

def dstOf (all : Array Oper) (j : Nat) : Option Tmp := (all[j]?).bind (·.dst)

def isTmp : Operand → Nat → Bool
  | .tmp t, n => Nat.beq t n
  | _, _ => false
def isDst : Option Tmp → Nat → Bool
  | some t, n => Nat.beq t n
  | none, _ => false
def memN : List Nat → Nat → Bool
  | [], _ => false
  | x :: t, n => Nat.beq x n || memN t n
def beqB : Bool → Bool → Bool
  | true, true | false, false => true
  | _, _ => false

/-- every operation of a segment hangs on the guard `(j, want)`, or on one whose place is written before within the segment; none writes the place `d` of the guard -/
def segOk (all : Array Oper) (j : Nat) (want : Bool) (d : Nat) : List Nat → List Oper → Bool
  | _, [] => true
  | seen, o :: t =>
    (match o.guard with
      | none => false
      | some (j', w') => (Nat.beq j j' && beqB want w') || (match dstOf all j' with | some d' => memN seen d' | none => false)) &&
    !isDst o.dst d &&
    segOk all j want d (match o.dst with | some x => x :: seen | none => seen) t

def litIf (c b : Bool) : AV := bif c then .lit (.bool b) else .bool b
/-- a segment of guarded operations and the pick behind it, taken both ways; `inner`: the segment where its guard is as wanted -/
noncomputable def segStep (all : Array Oper) (j : Nat) (want : Bool) (d : Nat) (g : Bool) (seg : List Oper) (p : Oper) (st : St) (inner : Option (St × Bool)) : Option (St × Bool) :=
  match p.op, p.dst, inner with
  | .pick c a b, some pd, some (st1, ob) =>
    bif isTmp c d && segOk all j want d [] seg then
      match (bif want then st1.ev a else (junkAll st seg).ev a), (bif want then (junkAll st seg).ev b else st1.ev b) with
      | .bool x, .bool y => some (putDst (junkAll st seg) (some pd) (litIf (isLit (gt st.slots d) && isLit (cond g (bif want then st1.raw a else (junkAll st seg).raw a) (bif want then (junkAll st seg).raw b else st1.raw b))) (cond g x y)), impB (bif want then g else !g) ob)
      | _, _ => none
    else none
  | _, _, _ => none

/-- the operations of a region from a place on; a segment of guarded ones up to its pick is taken both ways. `hp`: may memory be written. -/
noncomputable def evOps (P : Program) (call : Caller) (all : Array Oper) : Nat → Bool → List (Nat × Bool) → List Oper → St → Option (St × Bool)
  | 0, _, _, _, _ => none
  | _ + 1, _, _, [], st => some (st, true)
  | fuel + 1, hp, asm, o :: rest, st =>
    bif openG asm o then
      match o.guard with
      | none => none
      | some (j, want) => match dstOf all j with
        | none => none
        | some d => match delit (gt st.slots d), dropG asm (o :: rest) with
          | .bool g, p :: rest' =>
            match segStep all j want d g (takeG asm (o :: rest)) p st (evOps P call all fuel false ((j, want) :: asm) (takeG asm (o :: rest)) ⟨pt st.slots d (.bool want), st.heap⟩) with
            | some (st2, ob) => match evOps P call all fuel hp asm rest' st2 with
              | some (st3, ob3) => some (st3, andB ob ob3)
              | none => none
            | none => none
          | _, _ => none
    else match evV P call st o with
      | some (v, ob) => match evOps P call all fuel hp asm rest (putDst st o.dst v) with
        | some (st2, ob2) => some (st2, andB ob ob2)
        | none => none
      | none => bif hp then (match evH P st o with
        | some (v, H, ob) => match evOps P call all fuel hp asm rest (putDst ⟨st.slots, H⟩ o.dst v) with
          | some (st2, ob2) => some (st2, andB ob ob2)
          | none => none
        | none => none) else none

inductive AX where
  | nrm | ret
  | ext (id : Nat)

/-- what may come: a tree of decisions -/
inductive Tr (X : Type) where
  | leaf (x : X)
  | node (b : Bool) (l r : Tr X)
def Tr.get {X : Type} : Tr X → X
  | .leaf x => x
  | .node b l r => bif b then l.get else r.get

/-- how what two ways come to is put together; how an obligation is kept -/
structure Jn (α : Type) where
  br : Bool → Option α → Option α → Option α
  ob : Bool → Option α → Option α

def bindT {α X : Type} (J : Jn α) : Tr X → (X → Option α) → Option α
  | .leaf x, k => k x
  | .node b l r, k => J.br b (bindT J l k) (bindT J r k)

/-- what a call comes to: a value, and memory where it is not as it was -/
abbrev Lf := Tr (AV × Option (List Blk)) × Bool
abbrev CallerT := FuncId → List AV → List Blk → Option Lf

def joinT (b : Bool) (t1 t2 : Tr (AV × Option (List Blk))) : Tr (AV × Option (List Blk)) :=
  match t1, t2 with
  | .leaf (v, none), .leaf (w, none) => match mS b (delit v) (delit w) with
    | some u => .leaf (u, none)
    | none => .node b t1 t2
  | _, _ => .node b t1 t2

def ob2 (b o1 o2 : Bool) : Bool := andB (impB b o1) (impB (!b) o2)

def JL : Jn Lf where
  br b x y := match x, y with
    | some (t1, o1), some (t2, o2) => some (joinT b t1 t2, ob2 b o1 o2)
    | _, _ => none
  ob b x := match x with
    | some (t, o) => some (t, andB b o)
    | none => none

/-- the ways of a loop's round -/
abbrev Ls := Tr (AX × St) × Bool
def JS : Jn Ls where
  br b x y := match x, y with
    | some (t1, o1), some (t2, o2) => some (.node b t1 t2, ob2 b o1 o2)
    | _, _ => none
  ob b x := match x with
    | some (t, o) => some (t, andB b o)
    | none => none

def Blk.ro : Blk → Blk
  | .dead => .dead
  | .one _ l => .one false l
  | .rows _ n sz f => .rows false n sz f
def roH : List Blk → List Blk
  | [] => []
  | b :: t => b.ro :: roH t
def Blk.fresh : Blk → Bool
  | .dead => true
  | .one w _ => w
  | .rows w _ _ _ => w
def allFresh : List Blk → Bool
  | [] => true
  | b :: t => b.fresh && allFresh t
def dropH : List Blk → List Blk → List Blk
  | [], l => l
  | _ :: _, [] => []
  | _ :: t, _ :: l => dropH t l
def appH : List Blk → List Blk → List Blk
  | [], l => l
  | x :: t, l => x :: appH t l

/-- a call that leaves memory and gives one plain value -/
def one1 (call : CallerT) : Caller := fun f args H =>
  match call f args (roH H) with
  | some (.leaf (v, _), ob) => bif v.pure then some (v, ob) else none
  | _ => none

def mV (b : Bool) : AV → AV → AV
  | .agg xs, .agg ys => bif Nat.beq xs.length ys.length then .agg (go xs ys) else .junk
  | .tup xs, .tup ys => bif Nat.beq xs.length ys.length then .tup (go xs ys) else .junk
  | x, y => match mS b (delit x) (delit y) with | some v => v | none => .junk
where go : List AV → List AV → List AV
  | x :: xs, y :: ys => (match mS b (delit x) (delit y) with | some v => v | none => .junk) :: go xs ys
  | _, _ => []

def mergeSl (b : Bool) (ws : List Nat) : Nat → List AV → List AV → List AV → List AV
  | _, [], _, _ => []
  | i, x :: l, l1, l2 => (bif memN ws i then mV b (gt l1 i) (gt l2 i) else x) :: mergeSl b ws (i + 1) l l1 l2

def opsWr : List Oper → List Nat
  | [] => []
  | o :: t => match o.dst with | some d => d :: opsWr t | none => opsWr t
def appN : List Nat → List Nat → List Nat
  | [], l => l
  | x :: t, l => x :: appN t l
def codeWr : Code → List Nat
  | .region _ ops _ => opsWr ops.toList
  | .seq a b => appN (codeWr a) (codeWr b)
  | .cond _ a b => appN (codeWr a) (codeWr b)
  | .scope c => codeWr c
  | _ => []

/-- does an operation leave memory (a call: it may) -/
def opStill (o : Oper) : Bool :=
  match o.op with
  | .alloc _ | .box .. | .store .. | .buildSlice .. | .makeSlice .. => false
  | _ => true
def allStill : List Oper → Bool
  | [] => true
  | o :: t => opStill o && allStill t
/-- code that goes straight on -/
def joinC : Code → Bool
  | .skip | .label _ => true
  | .region _ ops _ => allStill ops.toList
  | .seq a b => joinC a && joinC b
  | .cond _ a b => joinC a && joinC b
  | .scope c => joinC c
  | _ => false

/-- code that goes straight on and leaves memory: the state behind it -/
noncomputable def evS (P : Program) (call : Caller) : Code → St → Option (St × Bool)
  | .skip, st => some (st, true)
  | .label _, st => some (st, true)
  | .region _ ops draw, st =>
    match evOps P call ops (ops.toList.length + 1) false [] ops.toList st with
    | some (st', ob) => bif (!draw || Region.lexB .any ops) then some (st', ob) else none
    | none => none
  | .seq a b, st => match evS P call a st with
    | some (s1, o1) => match evS P call b s1 with
      | some (s2, o2) => some (s2, andB o1 o2)
      | none => none
    | none => none
  | .cond c x y, st => match st.ev c with
    | .bool b => match evS P call x st, evS P call y st with
      | some (s1, o1), some (s2, o2) => some (⟨mergeSl b (appN (codeWr x) (codeWr y)) 0 st.slots s1.slots s2.slots, st.heap⟩, ob2 b o1 o2)
      | _, _ => none
    | _ => none
  | .scope c, st => evS P call c st
  | _, _ => none

/-- what a loop comes to -/
abbrev LoopOr := Code → St → Option (Tr (AX × St) × Bool)

def iterN {α : Type} (b : St → (AX → St → Option α) → Option α) : Nat → St → (AX → St → Option α) → Option α
  | 0, _, _ => none
  | n + 1, st, k => b st (fun e st' => match e with | .nrm => iterN b n st' k | e => k e st')

def callOf (o : Oper) : Option (Operand × Array Operand) :=
  match o.op with
  | .call c => match c.callee with
    | .value f => some (f, c.args)
    | _ => none
  | _ => none

/-- a region in the order of its text -/
noncomputable def evR {α : Type} (J : Jn α) (P : Program) (call : CallerT) (all : Array Oper) : Nat → List Oper → St → (St → Option α) → Option α
  | 0, _, _, _ => none
  | _ + 1, [], st, k => k st
  | fuel + 1, o :: rest, st, k =>
    bif openG [] o then
      match o.guard with
      | none => none
      | some (j, want) => match dstOf all j with
        | none => none
        | some d => match delit (gt st.slots d), dropG [] (o :: rest) with
          | .bool g, p :: rest' =>
            match segStep all j want d g (takeG [] (o :: rest)) p st (evOps P (one1 call) all fuel false [(j, want)] (takeG [] (o :: rest)) ⟨pt st.slots d (.bool want), st.heap⟩) with
            | some (st2, ob) => J.ob ob (evR J P call all fuel rest' st2 k)
            | none => none
          | _, _ => none
    else match callOf o with
      | some (fx, args) => match st.ev fx with
        | .fn (.func f) first captured => match call f (first ++ rawL st args.toList ++ captured) st.heap with
          | some (t, ob) => J.ob ob (bindT J t (fun x => evR J P call all fuel rest (putDst ⟨st.slots, match x.2 with | some H => H | none => st.heap⟩ o.dst x.1) k))
          | none => none
        | _ => none
      | none => match evV P (one1 call) st o with
        | some (v, ob) => J.ob ob (evR J P call all fuel rest (putDst st o.dst v) k)
        | none => match evH P st o with
          | some (v, H, ob) => J.ob ob (evR J P call all fuel rest (putDst ⟨st.slots, H⟩ o.dst v) k)
          | none => none

/-- the operations that one waits for -/
def edgesOf (md : Region.Mode) (ops : Array Oper) (k : Nat) : List Nat :=
  match ops[k]? with
  | some o => (o.after.toList.filter fun e => Region.binds md e).map (·.on)
  | none => []
def cloFrom (md : Region.Mode) (ops : Array Oper) : Nat → List Nat → List Nat
  | 0, acc => acc
  | k + 1, acc => cloFrom md ops k (bif acc.any (Nat.beq k) then acc ++ edgesOf md ops k else acc)
/-- does the last operation wait for all others -/
def cloB (md : Region.Mode) (ops : Array Oper) : Bool :=
  match ops.size with
  | 0 => false
  | z + 1 => (List.range z).all fun k => (cloFrom md ops z (edgesOf md ops z)).any (Nat.beq k)

/-- does every operation wait for earlier ones only -/
def edB (md : Region.Mode) (ops : Array Oper) : Bool := (List.range ops.size).all fun i => (edgesOf md ops i).all fun e => Nat.blt e i
def cl (md : Region.Mode) (ops : Array Oper) (i : Nat) : List Nat := cloFrom md ops i (edgesOf md ops i)
def waitsAll (md : Region.Mode) (ops : Array Oper) (i : Nat) : Bool := (List.range i).all fun k => (cl md ops i).any (Nat.beq k)
/-- where the operations begin that come in a row -/
def sufFrom (md : Region.Mode) (ops : Array Oper) : Nat → Nat
  | 0 => 0
  | k + 1 => bif waitsAll md ops k then sufFrom md ops k else k + 1

/-- what an operation is: one on values, a new variable, or one that may make memory -/
def kindD (o : Oper) : Nat :=
  match o.op with
  | .alloc _ => 1
  | .store _ (.tmp _) _ => 3
  | .box .. | .store .. | .buildSlice .. | .makeSlice .. => 2
  | .slice _ _ _ _ (some _) => 2
  | .call c => match c.callee with
    | .builtin .append | .builtin .copy | .builtin .clear => 2
    | .builtin _ => 0
    | _ => 2
  | _ => 0
def opndL : List Operand → List Nat
  | [] => []
  | .tmp t :: l => t :: opndL l
  | _ :: l => opndL l
def opnd (o : Oper) : List Nat := opndL o.op.operands.toList
/-- slots but those that are asked for forgotten -/
def maskK (ws : List Nat) : Nat → List AV → List AV
  | _, [] => []
  | i, x :: t => (bif memN ws i then x else .junk) :: maskK ws (i + 1) t
def noC : Caller := fun _ _ _ => none
def cntS (ops : Array Oper) : List Nat → Nat → Nat
  | _, 0 => 0
  | c, n + 1 => bif (match ops[n]? with | some o => Nat.beq (kindD o) 2 | none => false) && c.any (Nat.beq n) then cntS ops c n + 1 else cntS ops c n
/-- how many of those that may make memory come before -/
def rankS (ops : Array Oper) : Nat → Nat
  | 0 => 0
  | n + 1 => bif (match ops[n]? with | some o => Nat.beq (kindD o) 2 | none => false) then rankS ops n + 1 else rankS ops n
def atH : List (List Blk) → Nat → Option (List Blk)
  | [], _ => none
  | x :: _, 0 => some x
  | _ :: t, n + 1 => atH t n

def stTo (o : Oper) (d : Nat) : Bool :=
  match o.op with
  | .store _ (.tmp e) _ => Nat.beq e d
  | _ => false
def stOnly (ops : Array Oper) (d i : Nat) : Nat → Bool
  | 0 => true
  | n + 1 => (Nat.beq n i || (match ops[n]? with | some o => !stTo o d | none => true)) && stOnly ops d i n
/-- the cells of a new variable of this region -/
def allocLen (P : Program) (ops : Array Oper) (d : Nat) : Nat → Option Nat
  | 0 => none
  | n + 1 => match ops[n]? with
    | some o => match o.op with
      | .alloc t => bif isDst o.dst d then (match zeroT P t with | some z => (match z.cells with | some l => some l.length | none => none) | none => none) else allocLen P ops d n
      | _ => allocLen P ops d n
    | none => allocLen P ops d n

/-- an operation of a drawn region: its value, what it adds to memory, what is owed -/
noncomputable def evD1 (P : Program) (call : CallerT) (ops : Array Oper) (i : Nat) (o : Oper) (σ : List AV) (Hs : List (List Blk)) : Option (AV × Option (List Blk) × Bool) :=
  match o.guard, atH Hs (cntS ops (cl .any ops i) i) with
  | none, some H => match kindD o with
    | 0 => match evV P noC ⟨maskK (opnd o) 0 σ, H⟩ o with
      | some (v, ob) => some (v, none, ob)
      | none => none
    | 1 => match o.op with
      | .alloc t => match zeroT P t with
        | some z => match z.cells with
          | some _ => some (.junk, none, true)
          | none => none
        | none => none
      | _ => none
    | 3 => match o.op, o.dst with
      | .store t (.tmp d) x, none => bif stOnly ops d i ops.size && Nat.blt d σ.length then
          match ((St.mk (maskK (opnd o) 0 σ) []).ev x).cells, szT P t, allocLen P ops d i with
          | some l, some n, some m => bif Nat.beq l.length n && Nat.beq m n then some (.agg l, none, true) else none
          | _, _, _ => none
        else none
      | _, _ => none
    | _ => bif Nat.beq (cntS ops (cl .any ops i) i) (rankS ops i) then
        match callOf o with
        | some (fx, args) => match (St.mk (maskK (opnd o) 0 σ) H).ev fx with
          | .fn (.func f) first captured => match call f (first ++ rawL ⟨maskK (opnd o) 0 σ, H⟩ args.toList ++ captured) (roH H) with
            | some (.leaf (v, none), ob) => some (v, some [], ob)
            | some (.leaf (v, some H'), ob) => bif allFresh (dropH H H') then some (v, some (dropH H H'), ob) else none
            | _ => none
          | _ => none
        | none => match evH P ⟨maskK (opnd o) 0 σ, roH H⟩ o with
          | some (v, H', ob) => bif allFresh (dropH H H') then some (v, some (dropH H H'), ob) else none
          | none => none
      else none
  | _, _ => none

def lastH : List (List Blk) → List Blk
  | [] => []
  | [x] => x
  | _ :: t => lastH t
def dstIn (w : Nat) : List Oper → Bool
  | [] => false
  | o :: t => isDst o.dst w || dstIn w t
def prodB (ops : Array Oper) (c : List Nat) (w : Nat) : Nat → Bool
  | 0 => true
  | n + 1 => (match ops[n]? with | some o => !isDst o.dst w || c.any (Nat.beq n) | none => true) && prodB ops c w n
noncomputable def evDs (P : Program) (call : CallerT) (ops : Array Oper) : Nat → List Oper → List AV → List (List Blk) → Option (List AV × List (List Blk) × Bool)
  | _, [], _, Hs => some ([], Hs, true)
  | i, o :: t, σ, Hs =>
    bif (opnd o).all (fun w => !dstIn w (o :: t) && prodB ops (cl .any ops i) w i) && (match o.dst with | some d => !dstIn d t | none => true) then
      match evD1 P call ops i o σ Hs with
      | some (v, oh, ob) => match evDs P call ops (i + 1) t (match o.dst with | some d => pt σ d v | none => σ) (match oh with | some nb => Hs ++ [appH (lastH Hs) nb] | none => Hs) with
        | some (xs, Hs', ob') => some (v :: xs, Hs', andB ob ob')
        | none => none
      | none => none
    else none
def putAll : List Oper → List AV → List AV → List AV
  | o :: t, v :: vs, σ => putAll t vs (match o.dst with | some d => pt σ d v | none => σ)
  | _, _, σ => σ
/-- what is stored in a new variable -/
def stIn : List Oper → List AV → Nat → Option (List AV)
  | o :: t, v :: vs, d => bif stTo o d then (match v with | .agg l => some l | _ => none) else stIn t vs d
  | _, _, _ => none
/-- the new variables, in the order of the text -/
def reAlloc (P : Program) (all : List Oper) (xs : List AV) : List Oper → St → Option St
  | [], st => some st
  | o :: t, st => match o.op, o.dst with
    | .alloc ty, some d => match zeroT P ty with
      | some z => match z.cells with
        | some l => reAlloc P all xs t ⟨pt st.slots d (.ptr st.heap.length 0 0), st.heap ++ [.one true (match stIn all xs d with | some l' => l' | none => l)]⟩
        | none => none
      | none => none
    | _, _ => reAlloc P all xs t st
/-- a drawn region up to where its operations come in a row -/
noncomputable def evD (P : Program) (call : CallerT) (ops : Array Oper) (st : St) : Option (St × List Oper × Bool) :=
  bif edB .any ops then
    match evDs P call ops 0 (ops.toList.take (sufFrom .any ops ops.size)) st.slots [st.heap] with
    | some (xs, Hs, ob) => match reAlloc P (ops.toList.take (sufFrom .any ops ops.size)) xs (ops.toList.take (sufFrom .any ops ops.size)) ⟨putAll (ops.toList.take (sufFrom .any ops ops.size)) xs st.slots, lastH Hs⟩ with
      | some st' => some (st', ops.toList.drop (sufFrom .any ops ops.size), ob)
      | none => none
    | none => none
  else none

-- drawn regions that load and store in memory that was there
inductive XK where
  | free
  | rd (b : Nat)
  | wr (b : Nat)
def ptrB : AV → Option Nat
  | .ptr b _ _ => some b
  | _ => none
def junkL : List AV → List AV
  | [] => []
  | _ :: t => .junk :: junkL t
/-- a block without what is in it -/
def Blk.shp : Blk → Blk
  | .dead => .dead
  | .one _ l => .one false (junkL l)
  | .rows _ n sz _ => .rows false n sz (fun _ => [])
def shpH : List Blk → List Blk
  | [] => []
  | x :: t => x.shp :: shpH t
def XK.hits : XK → XK → Bool
  | .wr b, .wr c => Nat.beq b c
  | .wr b, .rd c => Nat.beq b c
  | .rd b, .wr c => Nat.beq b c
  | _, _ => false
def okX (c : List Nat) (k : XK) : List (Nat × XK) → Bool
  | [] => true
  | (n, x) :: t => (!x.hits k || c.any (Nat.beq n)) && okX c k t
/-- an operation of such a region: its value, what it looks at, memory behind it -/
noncomputable def evX1 (P : Program) (o : Oper) (σ : List AV) (H : List Blk) : Option (AV × XK × List Blk × Bool) :=
  match o.guard with
  | some _ => none
  | none => match o.op with
    | .store _ a _ => match ptrB ((St.mk σ H).ev a), evH P ⟨σ, H⟩ o with
      | some b, some (v, H', ob) => some (v, .wr b, H', ob)
      | _, _ => none
    | .load _ a => match ptrB ((St.mk σ H).ev a), evV P noC ⟨σ, H⟩ o with
      | some b, some (v, ob) => some (v, .rd b, H, ob)
      | _, _ => none
    | _ => match evV P noC ⟨σ, shpH H⟩ o with
      | some (v, ob) => some (v, .free, H, ob)
      | none => none
noncomputable def evXs (P : Program) (ops : Array Oper) : Nat → List Oper → List AV → List Blk → List (Nat × XK) → Option (List AV × List Blk × Bool)
  | _, [], _, H, _ => some ([], H, true)
  | i, o :: t, σ, H, ks =>
    bif (opnd o).all (fun w => !dstIn w (o :: t) && prodB ops (cl .any ops i) w i) && (match o.dst with | some d => !dstIn d t | none => true) then
      match evX1 P o (maskK (opnd o) 0 σ) H with
      | some (v, k, H', ob) => bif okX (cl .any ops i) k ks then
          match evXs P ops (i + 1) t (match o.dst with | some d => pt σ d v | none => σ) H' ((i, k) :: ks) with
          | some (xs, Hn, ob') => some (v :: xs, Hn, andB ob ob')
          | none => none
        else none
      | none => none
    else none
noncomputable def evX (P : Program) (ops : Array Oper) (st : St) : Option (St × Bool) :=
  bif edB .any ops then
    match evXs P ops 0 ops.toList st.slots st.heap [] with
    | some (xs, H, ob) => some (⟨putAll ops.toList xs st.slots, H⟩, ob)
    | none => none
  else none

-- drawn regions where all that makes or writes memory comes in one row
inductive YK where
  | free
  | rd (b : Nat)
  | mk (lo hi : Nat) (b : Option Nat)
def lenB : List Blk → Nat
  | [] => 0
  | _ :: t => lenB t + 1
def beqO : Option Nat → Nat → Bool
  | some a, b => Nat.beq a b
  | none, _ => false
def YK.isM : YK → Bool
  | .mk .. => true
  | _ => false
def YK.hits : YK → YK → Bool
  | .mk lo hi t, .rd b => (Nat.ble lo b && Nat.blt b hi) || beqO t b
  | .rd b, .mk lo hi t => (Nat.ble lo b && Nat.blt b hi) || beqO t b
  | .mk .., .mk .. => true
  | _, _ => false
def okY (c : List Nat) (k : YK) : List (Nat × YK) → Bool
  | [] => true
  | (n, x) :: t => (!x.hits k || c.any (Nat.beq n)) && okY c k t
def slcB : AV → Option Nat
  | .slc b _ _ => some b
  | _ => none
/-- the block that an operation on values looks at -/
def rdOf (st : St) (o : Oper) : Option Nat :=
  match o.op with
  | .load _ a => ptrB (st.ev a)
  | .indexAddr _ x _ => slcB (st.ev x)
  | .slice _ x _ _ _ => slcB (st.ev x)
  | _ => none
/-- the block that an operation on memory writes -/
def tchO (st : St) (o : Oper) : Option Nat :=
  match o.op with
  | .store _ a _ => ptrB (st.ev a)
  | .call c => match c.args.toList with
    | x :: _ => slcB (st.ev x)
    | [] => none
  | _ => none
noncomputable def evY1 (P : Program) (call : CallerT) (o : Oper) (σ : List AV) (H : List Blk) : Option (AV × YK × List Blk × Bool) :=
  match o.guard with
  | some _ => none
  | none => match callOf o with
    | some (fx, args) => match (St.mk σ H).ev fx with
      | .fn (.func f) first captured => match call f (first ++ rawL ⟨σ, H⟩ args.toList ++ captured) H with
        | some (.leaf (v, none), ob) => some (v, .mk (lenB H) (lenB H) none, H, ob)
        | some (.leaf (v, some H'), ob) => bif Nat.ble (lenB H) (lenB H') then some (v, .mk 0 (lenB H') none, H', ob) else none
        | _ => none
      | _ => none
    | none => match evV P noC ⟨σ, []⟩ o with
      | some (v, ob) => some (v, .free, H, ob)
      | none => match evV P noC ⟨σ, H⟩ o, rdOf ⟨σ, H⟩ o with
        | some (v, ob), some b => some (v, .rd b, H, ob)
        | _, _ => match evH P ⟨σ, H⟩ o with
          | some (v, H', ob) => bif Nat.ble (lenB H) (lenB H') then some (v, .mk (lenB H) (lenB H') (tchO ⟨σ, H⟩ o), H', ob) else none
          | none => none
noncomputable def evYs (P : Program) (call : CallerT) (ops : Array Oper) : Nat → List Oper → List AV → List Blk → List (Nat × YK) → Option (List AV × List Blk × Bool)
  | _, [], _, H, _ => some ([], H, true)
  | i, o :: t, σ, H, ks =>
    bif (opnd o).all (fun w => !dstIn w (o :: t) && prodB ops (cl .any ops i) w i) && (match o.dst with | some d => !dstIn d t | none => true) then
      match evY1 P call o (maskK (opnd o) 0 σ) H with
      | some (v, k, H', ob) => bif okY (cl .any ops i) k ks then
          match evYs P call ops (i + 1) t (match o.dst with | some d => pt σ d v | none => σ) H' ((i, k) :: ks) with
          | some (xs, Hn, ob') => some (v :: xs, Hn, andB ob ob')
          | none => none
        else none
      | none => none
    else none
noncomputable def evY (P : Program) (call : CallerT) (ops : Array Oper) (st : St) : Option (St × Bool) :=
  bif edB .any ops then
    match evYs P call ops 0 ops.toList st.slots st.heap [] with
    | some (xs, H, ob) => some (⟨putAll ops.toList xs st.slots, H⟩, ob)
    | none => none
  else none

-- the same, operations in a row behind it
noncomputable def evZ (P : Program) (call : CallerT) (ops : Array Oper) (st : St) : Option (St × List Oper × Bool) :=
  bif edB .any ops then
    match evYs P call ops 0 (ops.toList.take (sufFrom .any ops ops.size)) st.slots st.heap [] with
    | some (xs, H, ob) => some (⟨putAll (ops.toList.take (sufFrom .any ops ops.size)) xs st.slots, H⟩, ops.toList.drop (sufFrom .any ops ops.size), ob)
    | none => none
  else none

-- drawn regions that make slices in any order
def mentS (b : Nat) : AV → Bool
  | .slc c _ _ => Nat.beq c b
  | .slx c _ _ _ _ => Nat.beq c b
  | .slq _ c _ _ => Nat.beq c b
  | .ptr c _ _ => Nat.beq c b
  | .junk | .bool _ | .int .. | .flt .. | .str _ | .nilp | .nils | .nilf | .nili => false
  | _ => true
def mentL (b : Nat) : List AV → Bool
  | [] => false
  | x :: t => mentS b x || mentL b t
def ment (b : Nat) : AV → Bool
  | .agg l => mentL b l
  | .lit x => mentS b x
  | x => mentS b x
def isMk (o : Oper) : Bool := match o.op with | .makeSlice .. => true | _ => false
/-- how many slices are made before -/
def rankU (ops : Array Oper) : Nat → Nat
  | 0 => 0
  | n + 1 => bif (match ops[n]? with | some o => isMk o | none => false) then rankU ops n + 1 else rankU ops n
noncomputable def evU1 (P : Program) (o : Oper) (σ : List AV) (H nb : List Blk) : Option (AV × List Blk × Bool) :=
  match o.guard with
  | some _ => none
  | none => match o.op with
    | .makeSlice t l c => match makeA P [] t ((St.mk σ []).ev l) ((St.mk σ []).ev c) with
      | some (.slc _ _ n, [.rows true m sz f], ob) => bif allFlat (f 0) then some (.slc (lenB H + lenB nb) 0 n, nb ++ [.rows true m sz (fun _ => f 0)], ob) else none
      | _ => none
    | _ => match evV P noC ⟨σ, roH H⟩ o with
      | some (v, ob) => some (v, nb, ob)
      | none => none
noncomputable def evUs (P : Program) (ops : Array Oper) (H : List Blk) : Nat → List Oper → List AV → List Blk → Option (List AV × List Blk × Bool)
  | _, [], _, nb => some ([], nb, true)
  | i, o :: t, σ, nb =>
    bif (opnd o).all (fun w => !dstIn w (o :: t) && prodB ops (cl .any ops i) w i) && (match o.dst with | some d => !dstIn d t | none => true) then
      match evU1 P o (maskK (opnd o) 0 σ) H nb with
      | some (v, nb', ob) => match evUs P ops H (i + 1) t (match o.dst with | some d => pt σ d v | none => σ) nb' with
        | some (xs, nb'', ob') => some (v :: xs, nb'', andB ob ob')
        | none => none
      | none => none
    else none
/-- what does not wait for a slice does not name it -/
def apartU (ops : Array Oper) (z N : Nat) (xs : List AV) : Bool := (List.range z).all fun i => (match ops[i]? with | some o => !isMk o | none => true) || (List.range z).all fun j => Nat.beq i j || (cl .any ops j).any (Nat.beq i) || !ment (N + rankU ops i) (gt xs j)
noncomputable def evU (P : Program) (ops : Array Oper) (st : St) : Option (St × List Oper × Bool) :=
  bif edB .any ops then
    match evUs P ops st.heap 0 (ops.toList.take (sufFrom .any ops ops.size)) st.slots [] with
    | some (xs, nb, ob) => bif apartU ops (sufFrom .any ops ops.size) (lenB st.heap) xs then
        some (⟨putAll (ops.toList.take (sufFrom .any ops ops.size)) xs st.slots, st.heap ++ nb⟩, ops.toList.drop (sufFrom .any ops ops.size), ob) else none
    | none => none
  else none

-- slots told anew behind a region, where the oracle says so
noncomputable def deqA (x y : AV) : Bool := @decide (x = y) (Classical.propDecidable _)
noncomputable def rwSt : List AV → St → Option (St × Bool)
  | .int _ (.ofNat s) :: v :: t, st => match rwSt t ⟨pt st.slots s v, st.heap⟩ with
    | some (st', ob) => some (st', andB (deqA (delit (gt st.slots s)) (delit v)) ob)
    | none => none
  | .ptr b _ o :: v :: t, st => match blkOf st.heap b with
    | some (.one w l) => match rwSt t ⟨st.slots, setB st.heap b (.one w (pt l o v))⟩ with
      | some (st', ob) => some (st', andB (deqA (delit (gt l o)) (delit v)) ob)
      | none => none
    | _ => none
  | [], st => some (st, true)
  | _, _ => none
noncomputable def rwK {α : Type} (J : Jn α) (L : LoopOr) (id : Nat) (k : St → Option α) (st : St) : Option α :=
  match L (.exit id) st with
  | some (.leaf (_, s), _) => match rwSt s.slots st with
    | some (st', ob) => J.ob ob (k st')
    | none => none
  | some _ => none
  | none => k st

noncomputable def evC {α : Type} (J : Jn α) (P : Program) (call : CallerT) (L : LoopOr) (N : Nat) : Code → St → (AX → St → Option α) → Option α
  | .skip, st, k => k .nrm st
  | .region id ops draw, st, k =>
    bif draw then
      match evOps P (one1 call) ops (ops.toList.length + 1) false [] ops.toList st with
      | some (st', ob) => bif Region.lexB .any ops then J.ob ob (rwK J L id (k .nrm) st') else none
      | none => match evD P call ops st with
        | some (st', l, ob) => J.ob ob (evR J P call ops (ops.toList.length + 1) l st' (rwK J L id (k .nrm)))
        | none => match evX P ops st with
          | some (st', ob) => J.ob ob (rwK J L id (k .nrm) st')
          | none => match evY P call ops st with
            | some (st', ob) => J.ob ob (rwK J L id (k .nrm) st')
            | none => match evU P ops st with
              | some (st', l, ob) => J.ob ob (evR J P call ops (ops.toList.length + 1) l st' (rwK J L id (k .nrm)))
              | none => match evZ P call ops st with
                | some (st', l, ob) => J.ob ob (evR J P call ops (ops.toList.length + 1) l st' (rwK J L id (k .nrm)))
                | none => none
    else evR J P call ops (ops.toList.length + 1) ops.toList st (rwK J L id (k .nrm))
  | .seq a b, st, k => evC J P call L N a st (fun e st' => match e with | .nrm => evC J P call L N b st' k | e => k e st')
  | .cond c x y, st, k => match st.raw c with
    | .lit (.bool b) => cond b (evC J P call L N x st k) (evC J P call L N y st k)
    | .bool b => match (bif joinC x && joinC y then (match evS P (one1 call) x st, evS P (one1 call) y st with
        | some (s1, o1), some (s2, o2) => some ((⟨mergeSl b (appN (codeWr x) (codeWr y)) 0 st.slots s1.slots s2.slots, st.heap⟩ : St), ob2 b o1 o2)
        | _, _ => none) else none) with
      | some (s, ob) => J.ob ob (k .nrm s)
      | none => J.br b (evC J P call L N x st k) (evC J P call L N y st k)
    | _ => none
  | .block id c, st, k => evC J P call L N c st (fun e st' => match e with | .ext i => bif Nat.beq i id then k .nrm st' else k (.ext i) st' | e => k e st')
  | .loop c, st, k => match L c st with
    | some (l, ob) => J.ob ob (bindT J l (fun x => k x.1 x.2))
    | none => iterN (evC J P call L N c) N st k
  | .exit id, st, k => k (.ext id) st
  | .scope c, st, k => evC J P call L N c st k
  | .label _, st, k => k .nrm st
  | .ret, st, k => k .ret st
  | _, _, _ => none

def resA (P : Program) (st : St) : ResultVar → Option (AV × Bool)
  | .tmp t => some (gt st.slots t, true)
  | .cell a t => loadA P st.heap t (delit (gt st.slots a))
def resL (P : Program) (st : St) : List ResultVar → Option (List AV × Bool)
  | [] => some ([], true)
  | r :: t => match resA P st r, resL P st t with
    | some (v, ob), some (l, ob') => some (v :: l, andB ob ob')
    | _, _ => none
def results1 (P : Program) (fn : Func) (st : St) : Option (AV × Bool) :=
  match resL P st fn.results.toList with
  | some ([v], ob) => some (v, ob)
  | some (l, ob) => some (.tup l, ob)
  | none => none

def junks : Nat → List AV
  | 0 => []
  | n + 1 => .junk :: junks n
def app : List AV → List AV → List AV
  | [], l => l
  | x :: t, l => x :: app t l

/-- a function's body, all of the memory that is there read only -/
noncomputable def evFn (P : Program) (call : CallerT) (L : LoopOr) (N : Nat) (fn : Func) (args : List AV) (H : List Blk) : Option Lf :=
  match fn.body with
  | none => none
  | some c => evC JL P call L N c ⟨app args (junks (fn.ntmps - args.length)), roH H⟩ (fun e st => match e with
    | .ext _ => none
    | _ => match results1 P fn st with
      | some (v, ob) => bif v.pure then some (.leaf (v, none), ob) else
          bif allFresh (dropH H st.heap) then some (.leaf (v, some (appH H (dropH H st.heap))), ob) else none
      | none => none)

/-- a function's body, all of memory as it is: what it may write it may write -/
noncomputable def evFnM (P : Program) (call : CallerT) (L : LoopOr) (N : Nat) (fn : Func) (args : List AV) (H : List Blk) : Option Lf :=
  match fn.body with
  | none => none
  | some c => evC JL P call L N c ⟨app args (junks (fn.ntmps - args.length)), H⟩ (fun e st => match e with
    | .ext _ => none
    | _ => match results1 P fn st with
      | some (v, ob) => some (.leaf (v, some st.heap), ob)
      | none => none)

/-- calls: a table first, else the body -/
noncomputable def callF (P : Program) (K : CallerT) (N : Nat) : Nat → CallerT
  | 0, f, args, H => K f args H
  | d + 1, f, args, H => match K f args H with
    | some r => some r
    | none => match P.funcs[f]? with
      | some fn => match evFn P (callF P K N d) (fun _ _ => none) N fn args H with
        | some r => some r
        | none => evFnM P (callF P K N d) (fun _ _ => none) N fn args H
      | none => none

noncomputable def evF (P : Program) (K : CallerT) (L : LoopOr) (N d : Nat) (f : FuncId) (args : List AV) (H : List Blk) : Option Lf :=
  match P.funcs[f]? with
  | some fn => evFn P (callF P K N d) L N fn args H
  | none => none

noncomputable def evM (P : Program) (K : CallerT) (L : LoopOr) (N d : Nat) (f : FuncId) (args : List AV) (H : List Blk) : Option Lf :=
  match P.funcs[f]? with
  | some fn => evFnM P (callF P K N d) L N fn args H
  | none => none

-- blocks numbered anew: `pm` tells the old number of each
def idxOf : List Nat → Nat → Nat → Option Nat
  | [], _, _ => none
  | x :: t, b, k => bif Nat.beq x b then some k else idxOf t b (k + 1)
def renS (g : Nat → Option Nat) : AV → AV
  | .slc b r n => match g b with | some k => .slc k r n | none => .junk
  | .slx b r o e n => match g b with | some k => .slx k r o e n | none => .junk
  | .ptr b r o => match g b with | some k => .ptr k r o | none => .junk
  | .bool b => .bool b
  | .int k n => .int k n
  | .flt k o => .flt k o
  | .str s => .str s
  | .nilp => .nilp
  | .nils => .nils
  | .nilf => .nilf
  | .nili => .nili
  | _ => .junk
def renSL (g : Nat → Option Nat) : List AV → List AV
  | [] => []
  | x :: t => renS g x :: renSL g t
def renV (g : Nat → Option Nat) : AV → AV
  | .agg l => .agg (renSL g l)
  | .tup l => .tup (renTL g l)
  | .fn f a b => .fn f (renSL g a) (renSL g b)
  | .lit x => .lit (renS g x)
  | .ifc t x => .ifc t (renS g x)
  | x => renS g x
where renTL (g : Nat → Option Nat) : List AV → List AV
  | [] => []
  | .agg l :: t => .agg (renSL g l) :: renTL g t
  | .lit x :: t => .lit (renS g x) :: renTL g t
  | x :: t => renS g x :: renTL g t
def renVL (g : Nat → Option Nat) : List AV → List AV
  | [] => []
  | x :: t => renV g x :: renVL g t
def renB (g : Nat → Option Nat) : Blk → Blk
  | .dead => .dead
  | .one w l => .one w (renVL g l)
  | .rows w n sz f => .rows w n sz (fun i => renVL g (f i))
def gcH (g : Nat → Option Nat) (H : List Blk) : List Nat → List Blk
  | [] => []
  | b :: t => (match blkOf H b with | some x => renB g x | none => .dead) :: gcH g H t
def idxP (pm : List Nat) (b : Nat) : Option Nat := idxOf pm b 0
def gcSt (pm : List Nat) (st : St) : St := ⟨renVL (idxP pm) st.slots, gcH (idxP pm) st.heap pm⟩

-- a call within a larger memory: the blocks that its arguments name
def addN (b : Nat) (l : List Nat) : List Nat := bif memN' l b then l else l ++ [b]
where memN' : List Nat → Nat → Bool
  | [], _ => false
  | x :: t, n => Nat.beq x n || memN' t n
def refS : AV → List Nat → List Nat
  | .slc b _ _, l => addN b l
  | .slx b _ _ _ _, l => addN b l
  | .ptr b _ _, l => addN b l
  | _, l => l
def refSL : List AV → List Nat → List Nat
  | [], l => l
  | x :: t, l => refSL t (refS x l)
def refV : AV → List Nat → List Nat
  | .agg xs, l => refSL xs l
  | .fn _ a b, l => refSL b (refSL a l)
  | .lit x, l => refS x l
  | .ifc _ x, l => refS x l
  | x, l => refS x l
def refVL : List AV → List Nat → List Nat
  | [], l => l
  | x :: t, l => refVL t (refV x l)
def nthN : List Nat → Nat → Option Nat
  | [], _ => none
  | x :: _, 0 => some x
  | _ :: t, n + 1 => nthN t n
def lenN : List Nat → Nat
  | [] => 0
  | _ :: t => lenN t + 1
/-- from the small memory's numbers to the large one's -/
def fwd (m : List Nat) (big : Nat) (j : Nat) : Option Nat := match nthN m j with | some b => some b | none => some (big + (j - lenN m))
def renBL (g : Nat → Option Nat) : List Blk → List Blk
  | [] => []
  | x :: t => renB g x :: renBL g t
def dropN : List Nat → List Blk → List Blk
  | [], l => l
  | _ :: _, [] => []
  | _ :: t, _ :: l => dropN t l
def fwdL (m : List Nat) (H : List Blk) (x : AV × Option (List Blk)) : AV × Option (List Blk) :=
  match x with
  | (v, none) => (renV (fwd m (lenB H)) v, none)
  | (v, some H') => (renV (fwd m (lenB H)) v, some (appH H (renBL (fwd m (lenB H)) (dropN m H'))))
def mapTr {X Y : Type} (g : X → Y) : Tr X → Tr Y
  | .leaf x => .leaf (g x)
  | .node b l r => .node b (mapTr g l) (mapTr g r)
def ltN : List Nat → Nat → Bool
  | [], _ => true
  | x :: t, n => Nat.blt x n && ltN t n
def freshTr (m : List Nat) : Tr (AV × Option (List Blk)) → Bool
  | .leaf (_, none) => true
  | .leaf (_, some H') => allFresh (dropN m H')
  | .node _ l r => freshTr m l && freshTr m r
/-- the blocks that blocks of a list name -/
def refB (H : List Blk) : List Nat → List Nat → List Nat
  | [], acc => acc
  | b :: t, acc => refB H t (match blkOf H b with | some (.one _ l) => refVL l acc | _ => acc)
/-- the blocks that arguments name, and those that these name -/
def refC (args : List AV) (H : List Blk) : List Nat := refB H (refB H (refVL args []) (refVL args [])) (refB H (refVL args []) (refVL args []))
def selRun (run : List AV → List Blk → Option Lf) : List AV → List Blk → Option Lf := fun args H =>
  bif ltN (refC args H) (lenB H) then (match run (renVL (idxP (refC args H)) args) (gcH (idxP (refC args H)) (roH H) (refC args H)) with
  | some (t, o) => bif freshTr (refC args H) t then some (mapTr (fwdL (refC args H) H) t, o) else none
  | none => none) else none

def noK : CallerT := fun _ _ _ => none
def noL : LoopOr := fun _ _ => none
/-- one plain value -/
def val1 (v : AV) : Option Lf := some (.leaf (v, none), true)

end Go.Sx
