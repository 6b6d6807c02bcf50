/- A verified evaluator for Go code: moves of deep data, and the operations. -/
import Derived.Test.YtedffkngbjlgdaaGreatDoorVm0
namespace Go.Vm
set_option linter.unusedVariables false

def flatL : List D → Bool
  | [] => true
  | .lf _ :: l => flatL l
  | _ => false

/-! ### Deep data of a value that is handed over: with 'own' it keeps what is its own, else it is frozen. -/
mutual
def mvD : Nat → Bool → Hp → V → (D → Hp → Prop) → Prop
  | 0, _, _, _, _ => False
  | _ + 1, _, h, .lf (.slice none 0 0), K => ∃ (sz : Nat) (α : Type) (enc : α → List D), (∀ a, (enc a).length = sz) ∧ K (.row sz enc []) h
  | _ + 1, _, h, .lf v, K => K (.lf v) h
  | n + 1, own, h, .sl t cut, K => match lookO h t with
    | some (.row k sz enc l) => match own with
      | true => match k with
        | .own => match cut with
          | none => K (.row sz enc (cutL none l)) ((t, none) :: h)
          | some c => ∃ (β : Type) (enc' : β → List D) (l' : List β), (∀ a, (enc' a).length = sz) ∧ l'.map enc' = (cutL (some c) l).map enc ∧ K (.row sz enc' l') ((t, none) :: h)
        | .ro => K (.sh (.row sz enc (cutL cut l))) h
        | _ => False
      | false => match k with
        | .lent => False
        | _ => K (.row sz enc (cutL cut l)) ((t, some (.row .ro sz enc l)) :: h)
    | some (.arr true sz els) => mvEls n own ((t, none) :: h) (cutL cut els) fun ds h' => ∃ (α : Type) (enc : α → List D) (l : List α), (∀ a, (enc a).length = sz) ∧ l.map enc = ds ∧ K (.row sz enc l) h'
    | some (.foc sz enc l j cs) => match own with
      | true => match cut with
        | none => mvDs n true ((t, none) :: h) cs fun ds h' => ∃ y', enc y' = ds ∧ K (.row sz enc (l.set j y')) h'
        | some _ => False
      | false => False
    | none => K .dead h
    | _ => False
  | n + 1, own, h, .pt t 0 0, K => match lookO h t with
    | some (.arr true _ [cs]) => mvDs n own ((t, none) :: h) cs fun ds h' => K (.box ds) h'
    | none => K .dead h
    | _ => False
  | _ + 1, _, h, .fn f [], K => K (.fn f []) h
  | _, _, _, _, _ => False
def mvDs : Nat → Bool → Hp → List V → (List D → Hp → Prop) → Prop
  | 0, _, _, _, _ => False
  | _ + 1, _, h, [], K => K [] h
  | n + 1, own, h, v :: l, K => mvD n own h v fun d h' => mvDs n own h' l fun ds h'' => K (d :: ds) h''
def mvEls : Nat → Bool → Hp → List (List V) → (List (List D) → Hp → Prop) → Prop
  | 0, _, _, _, _ => False
  | _ + 1, _, h, [], K => K [] h
  | n + 1, own, h, v :: l, K => mvDs n own h v fun d h' => mvEls n own h' l fun ds h'' => K (d :: ds) h''
end

/-! ### Operations on numbers, bools and texts -/
def maxI : Int := 9223372036854775807
/-- how long a row or a text may grow -/
def lim : Nat := 4294967296

def binI (op : BinOp) (k : IntKind) (x y : Int) (K : V → Prop) : Prop :=
  let back (r : BitVec k.bits) : Prop := K (.lf (.int k (k.wrap r.toNat)))
  match op with
  | .add => K (.lf (.int k (k.wrap (x + y))))
  | .sub => K (.lf (.int k (k.wrap (x - y))))
  | .mul => K (.lf (.int k (k.wrap (x * y))))
  | .quo => match decide (y = 0) with | true => False | false => K (.lf (.int k (k.wrap (x.tdiv y))))
  | .rem => match decide (y = 0) with | true => False | false => K (.lf (.int k (x.tmod y)))
  | .and => back (BitVec.ofInt k.bits x &&& BitVec.ofInt k.bits y)
  | .or => back (BitVec.ofInt k.bits x ||| BitVec.ofInt k.bits y)
  | .xor => back (BitVec.ofInt k.bits x ^^^ BitVec.ofInt k.bits y)
  | .eql => K (.lf (.bool (x == y)))
  | .neq => K (.lf (.bool (x != y)))
  | .lss => K (.lf (.bool (decide (x < y))))
  | .leq => K (.lf (.bool (decide (x ≤ y))))
  | .gtr => K (.lf (.bool (decide (x > y))))
  | .geq => K (.lf (.bool (decide (x ≥ y))))
  | _ => False

def strLt (x y : ByteArray) : Bool := Op.bytesLess x.toList y.toList
def strEq (x y : ByteArray) : Bool := x.toList == y.toList

def binS (op : BinOp) (x y : ByteArray) (K : V → Prop) : Prop :=
  match op with
  | .add => x.size + y.size ≤ lim ∧ K (.lf (.string (x ++ y)))
  | .eql => K (.lf (.bool (strEq x y)))
  | .neq => K (.lf (.bool (!strEq x y)))
  | .lss => K (.lf (.bool (strLt x y)))
  | .leq => K (.lf (.bool (strLt x y || strEq x y)))
  | .gtr => K (.lf (.bool (!(strLt x y || strEq x y))))
  | .geq => K (.lf (.bool (!strLt x y)))
  | _ => False

/-- Two structs of numbers, bools and texts: equal cell by cell. -/
def eqCells : List SK → List V → List V → (Bool → Prop) → Prop
  | [], [], [], K => K true
  | .int k :: ks, .lf (.int k1 x) :: l, .lf (.int k2 y) :: m, K => match decide (k1 = k), decide (k2 = k) with | true, true => eqCells ks l m fun b => K (x == y && b) | _, _ => False
  | .bool :: ks, .lf (.bool x) :: l, .lf (.bool y) :: m, K => eqCells ks l m fun b => K (x == y && b)
  | .string :: ks, .lf (.string x) :: l, .lf (.string y) :: m, K => eqCells ks l m fun b => K (strEq x y && b)
  | _, _, _, _ => False

def binV (T : Tab) (op : BinOp) (t : Nat) (x y : V) (K : V → Prop) : Prop :=
  match x, y with
  | .lf (.int k a), .lf (.int k' b) => match op with
    | .shl => match decide (b < 0) with | true => False | false => K (.lf (.int k (k.wrap (a * 2 ^ (min b.toNat k.bits)))))
    | .shr => match decide (b < 0) with | true => False | false => K (.lf (.int k (a.fdiv (2 ^ (min b.toNat k.bits)))))
    | _ => match decide (k = k') with | true => binI op k a b K | false => False
  | .lf (.string a), .lf (.string b) => binS op a b K
  | .lf (.bool a), .lf (.bool b) => ty T t fun i => match i.d with
    | .bool => match op with
      | .eql => K (.lf (.bool (a == b)))
      | .neq => K (.lf (.bool (!(a == b))))
      | _ => False
    | _ => False
  | .agg a, .agg b => ty T t fun i => match i.ks with
    | [] => False
    | k :: ks => match op with
      | .eql => eqCells (k :: ks) a b fun r => K (.lf (.bool r))
      | .neq => eqCells (k :: ks) a b fun r => K (.lf (.bool (!r)))
      | _ => False
  | .lf (.pointer none), .lf (.pointer none) => ty T t fun i => match i.d with
    | .pointer _ => match op with
      | .eql => K (.lf (.bool true))
      | .neq => K (.lf (.bool false))
      | _ => False
    | _ => False
  | .pt _ _ _, .lf (.pointer none) => ty T t fun i => match i.d with
    | .pointer _ => match op with
      | .eql => K (.lf (.bool false))
      | .neq => K (.lf (.bool true))
      | _ => False
    | _ => False
  | _, _ => False

def unV (op : UnOp) (x : V) (K : V → Prop) : Prop :=
  match op, x with
  | .not, .lf (.bool b) => K (.lf (.bool (!b)))
  | .neg, .lf (.int k n) => K (.lf (.int k (k.wrap (-n))))
  | _, _ => False

/-- A byte of a text. -/
def bt (s : ByteArray) (i : Int) : Int := ((s.data.toList.getD i.toNat 0).toNat : Int)
def encB (b : UInt8) : List D := [.lf (.int .u8 b.toNat)]

def lenV (d : TyD) (g : Nat → Option Ob) (v : V) (K : V → Prop) : Prop :=
  match d, v with
  | .string, .lf (.string s) => K (.lf (.int .i64 s.size))
  | .slice _, .lf (.slice none 0 0) => K (.lf (.int .i64 0))
  | .slice _, .sl t cut => match g t with
    | some (.row _ _ _ l) => match cut with
      | none => l.length ≤ 9223372036854775807 → K (.lf (.int .i64 l.length))
      | some (_, n) => n ≤ 9223372036854775807 → K (.lf (.int .i64 n))
    | some (.arr _ _ els) => match cut with
      | none => K (.lf (.int .i64 els.length))
      | some (_, n) => K (.lf (.int .i64 n))
    | some (.foc _ _ l _ _) => match cut with
      | none => l.length ≤ 9223372036854775807 → K (.lf (.int .i64 l.length))
      | some (_, n) => n ≤ 9223372036854775807 → K (.lf (.int .i64 n))
    | none => False
  | _, _ => False

def lenOf (g : Nat → Option Ob) (t : Nat) (cut : Option (Nat × Nat)) (K : (sz n : Nat) → Prop) : Prop :=
  match g t with
  | some (.row _ sz _ l) => match cut with
    | none => K sz l.length
    | some (_, n) => K sz n
  | some (.arr _ sz els) => match cut with
    | none => K sz els.length
    | some (_, n) => K sz n
  | some (.foc sz _ l _ _) => match cut with
    | none => K sz l.length
    | some (_, n) => K sz n
  | none => False

def offOf : Option (Nat × Nat) → Nat → Nat
  | none, i => i
  | some (o, _), i => o + i

def bnd (o : Option V) (d : Int) (k : Int → Prop) : Prop :=
  match o with
  | none => k d
  | some (.lf (.int _ n)) => k n
  | _ => False

/-- xs[lo:hi] within the length; a third number sets the capacity. -/
def sliceV (g : Nat → Option Ob) (esz : Nat) (x : V) (lo hi mx : Option V) (K : V → Prop) : Prop :=
  match x with
  | .lf (.string s) => match mx with
    | some _ => False
    | none => bnd lo 0 fun a => bnd hi s.size fun b => 0 ≤ a ∧ a ≤ b ∧ b ≤ s.size ∧ K (.lf (.string (s.extract a.toNat b.toNat)))
  | .lf (.slice none 0 0) => match mx with
    | some _ => False
    | none => bnd lo 0 fun a => bnd hi 0 fun b => a = 0 ∧ b = 0 ∧ K (.lf (.slice none 0 0))
  | .sl t cut => lenOf g t cut fun sz n => match Nat.beq sz esz with
    | true => bnd lo 0 fun a => bnd hi n fun b => match mx with
      | none => 0 ≤ a ∧ a ≤ b ∧ b ≤ n ∧ K (.sl t (some (offOf cut a.toNat, (b - a).toNat)))
      | some m => match hi with
        | none => False
        | some _ => bnd (some m) 0 fun c => 0 ≤ a ∧ a ≤ b ∧ b ≤ c ∧ c ≤ n ∧ K (.sl t (some (offOf cut a.toNat, (b - a).toNat)))
    | false => False
  | _ => False

def convV (T : Tab) (g : Nat → Option Ob) (src dst : Nat) (x : V) (K : V → Prop) (A : List UInt8 → Prop) : Prop :=
  ty T src fun si => ty T dst fun di => match x with
    | .lf (.int _ n) => match si.d, di.d with
      | .int _, .int k => K (.lf (.int k (k.wrap n)))
      | _, _ => False
    | .lf (.string s) => match si.d, di.d with
      | .string, .string => K (.lf (.string s))
      | .string, .slice e => ty T e fun ei => match ei.d with
        | .int .u8 => s.size ≤ lim ∧ A s.data.toList
        | _ => False
      | _, _ => False
    | .lf (.slice none 0 0) => match si.d, di.d with
      | .slice e, .string => ty T e fun ei => match ei.d with
        | .int .u8 => K (.lf (.string .empty))
        | _ => False
      | _, _ => False
    | .sl t cut => match si.d, di.d with
      | .slice e, .string => ty T e fun ei => match ei.d with
        | .int .u8 => match g t with
          | some (.row _ sz enc l) => match Nat.beq sz 1 with
            | true => ∃ bs : List UInt8, (cutL cut l).map enc = bs.map encB ∧ K (.lf (.string ⟨bs.toArray⟩))
            | false => False
          | some (.arr _ sz els) => match Nat.beq sz 1 with
            | true => rdEls 40 g (cutL cut els) fun ds => ∃ bs : List UInt8, ds = bs.map encB ∧ K (.lf (.string ⟨bs.toArray⟩))
            | false => False
          | _ => False
        | _ => False
      | _, _ => False
    | _ => False

/-- The fields of a struct that is built. -/
def fillK : List (Nat × Nat × Nat × Bool) → List (Nat × V) → List V → (List V → Prop) → Prop
  | _, [], cs, K => K cs
  | fs, (i, v) :: ps, cs, K => match nth fs i with
    | some (_, o, n, _) => cellsK v fun vs => match Nat.beq vs.length n with
      | true => spliceK o cs vs fun cs' => fillK fs ps cs' K
      | false => False
    | none => False

def fillEls (sz : Nat) : List (Nat × V) → List (List V) → (List (List V) → Prop) → Prop
  | [], els, K => K els
  | (i, v) :: ps, els, K => cellsK v fun vs => match Nat.beq vs.length sz with
    | true => fvs vs fun vs => setK i els vs fun els' => fillEls sz ps els' K
    | false => False

def reps {β : Type _} : Nat → β → List β
  | 0, _ => []
  | n + 1, x => x :: reps n x

/-- The elements of a slice, as they are read. -/
def elsK (g : Nat → Option Ob) (v : V) (sz : Nat) (K : List (List D) → Prop) : Prop :=
  match v with
  | .lf (.slice none 0 0) => K []
  | .lf (.string s) => match Nat.beq sz 1 with
    | true => K (s.data.toList.map encB)
    | false => False
  | .sl t cut => match g t with
    | some (.row _ sz' enc l) => match Nat.beq sz' sz with
      | true => (∀ a, flatL (enc a) = true) ∧ K ((cutL cut l).map enc)
      | false => False
    | some (.arr _ sz' els) => match Nat.beq sz' sz with
      | true => rdEls 40 g (cutL cut els) fun ds => (∀ e, e ∈ ds → flatL e = true) ∧ K ds
      | false => False
    | _ => False
  | _ => False

/-! ### Append: the base as a typed row; what is appended as deep elements -/
def baseK (n : Nat) (h : Hp) (v : V) (sz : Nat) (K : (own : Bool) → (α : Type) → (α → List D) → List α → Hp → Prop) : Prop :=
  match v with
  | .lf (.slice none 0 0) => ∃ (own : Bool) (α : Type) (enc : α → List D), (∀ a, (enc a).length = sz) ∧ K own α enc [] h
  | .sl t cut => match lookO h t with
    | some (.row k sz' (α := α) enc l) => match Nat.beq sz' sz with
      | true => match k with
        | .own => K true α enc (cutL cut l) ((t, none) :: h)
        | .mix => K false α enc (cutL cut l) ((t, none) :: h)
        | _ => False
      | false => False
    | some (.arr true sz' els) => match Nat.beq sz' sz with
      | true => ∃ own : Bool, mvEls n own ((t, none) :: h) (cutL cut els) fun ds h' => ∃ (α : Type) (enc : α → List D) (l : List α), (∀ a, (enc a).length = sz) ∧ l.map enc = ds ∧ K own α enc l h'
      | false => False
    | _ => False
  | _ => False

def srcK (n : Nat) (flat own : Bool) (h : Hp) (v : V) (sz : Nat) (K : List (List D) → Hp → Prop) : Prop :=
  match v with
  | .lf (.slice none 0 0) => K [] h
  | .lf (.string s) => match Nat.beq sz 1 with
    | true => K (s.data.toList.map encB) h
    | false => False
  | .sl t cut => match lookO h t with
    | some (.row k sz' (α := α) enc l) => match Nat.beq sz' sz with
      | true => match flat with
        | true => (∀ a, flatL (enc a) = true) ∧ K ((cutL cut l).map enc) h
        | false => match own with
          | true => match k with
            | .own => match cut with
              | none => K (l.map enc) ((t, none) :: h)
              | some (o, n) => ∃ z : α, enc z = reps sz .dead ∧ K (((l.drop o).take n).map enc) ((t, some (.row .own sz' enc (l.take o ++ List.replicate n z ++ l.drop (o + n)))) :: h)
            | _ => False
          | false => match k with
            | .lent => False
            | .own => K ((cutL cut l).map enc) ((t, some (.row .ro sz' enc l)) :: h)
            | _ => K ((cutL cut l).map enc) h
      | false => False
    | some (.arr true sz' els) => match Nat.beq sz' sz with
      | true => mvEls n own ((t, none) :: h) (cutL cut els) K
      | false => False
    | _ => False
  | _ => False
end Go.Vm
