/- A verified evaluator for Go code: the evaluator. Slots hold abstract values V, objects hold typed rows of deep data D; what the machine does is said in Vm1 and on. -/
import Derived.Orders
import Derived.Tactics
namespace Go.Vm
set_option linter.unusedVariables false

/-- Deep data of one cell. -/
inductive D : Type 1 where
  | lf (v : Value)
  | dead
  | row (sz : Nat) {α : Type} (enc : α → List D) (l : List α)
  | box (cs : List D)
  | fn (f : Nat) (caps : List D)
  | sh (d : D)      -- data that is read for good, within one's own

/-- What a slot holds: a value without addresses, a slice of an object, an address in an object, a struct, a tuple, a function with captured addresses. -/
inductive V : Type where
  | lf (v : Value)
  | dead
  | sl (t : Nat) (cut : Option (Nat × Nat))
  | pt (t i f : Nat)
  | agg (cs : List V)
  | tup (vs : List V)
  | fn (f : Nat) (caps : List V)
  deriving Inhabited

inductive Kind where
  | own | mix | ro | lent

/-- An object: a row of typed elements, or a few elements whose cells are slots of their own. -/
inductive Ob : Type 1 where
  | row (k : Kind) (sz : Nat) {α : Type} (enc : α → List D) (l : List α)
  | arr (own : Bool) (sz : Nat) (els : List (List V))
  | foc (sz : Nat) {α : Type} (enc : α → List D) (l : List α) (j : Nat) (cs : List V)   -- one's own row, element j laid open

abbrev Sl := List (Nat × V)
abbrev Hp := List (Nat × Option Ob)

def look : Sl → Nat → V
  | [], _ => .dead
  | (k, v) :: r, n => match Nat.beq k n with | true => v | false => look r n

def lookO : Hp → Nat → Option Ob
  | [], _ => none
  | (k, v) :: r, n => match Nat.beq k n with | true => v | false => lookO r n

inductive TyD where
  | int (k : IntKind) | bool | string | slice (e : Nat) | pointer (e : Nat)
  | struct (fs : List (Nat × Nat × Nat × Bool))     -- of each field: its type, offset, size, whether it is a struct
  | func | other

inductive SK where
  | int (k : IntKind) | bool | string

structure TyI where
  size : Nat
  bytes : Nat
  agg : Bool
  zero : List Value
  d : TyD
  flat : Bool := true
  ks : List SK := []

abbrev Tab := List (Nat × TyI)

def ty (T : Tab) (t : Nat) (K : TyI → Prop) : Prop :=
  match T with
  | [] => False
  | (k, i) :: r => match Nat.beq k t with | true => K i | false => ty r t K

inductive Mode where
  | rd | keep | mut | take

/-- A contract: what a function's parameters hold (by x), how they are taken, and what is known of the outcome. -/
structure Con where
  X : Type
  params : List (Mode × Bool)
  res : List Bool
  resOwn : Bool
  ins : X → List (List D)
  post : X → List (List D) → List (List D) → Prop

abbrev Cons := List (Nat × Con)

def con (S : Cons) (f : Nat) (K : Con → Prop) : Prop :=
  match S with
  | [] => False
  | (k, c) :: r => match Nat.beq k f with | true => K c | false => con r f K

def nth {β : Type _} : List β → Nat → Option β
  | [], _ => none
  | x :: _, 0 => some x
  | _ :: l, n + 1 => nth l n

/-- The walk's stops: a test that is not decided, a place that has to be there. -/
def brb (b : Bool) (P : Bool → Prop) : Prop := match b with | true => P true | false => P false
def ex {β : Type _} (o : Option β) (P : β → Prop) : Prop := match o with | some c => P c | none => False

theorem br2 {b : Bool} {P Q : Prop} (h1 : b = true → P) (h2 : b = false → Q) : (match (generalizing := false) b with | true => P | false => Q) := by
  cases b
  · exact h2 rfl
  · exact h1 rfl
theorem ex2 {β : Type _} {o : Option β} {P : β → Prop} (c : β) (h : o = some c) (k : P c) : (match (generalizing := false) o with | some c => P c | none => False) := by
  subst h; exact k

def isSc : Value → Bool
  | .bool _ | .int _ _ | .string _ | .pointer none | .nilFunc | .slice none 0 0 => true
  | _ => false
def allSc : List Value → Bool
  | [] => true
  | v :: l => match isSc v with | true => allSc l | false => false

/-- A constant. -/
def ofVal (v : Value) : V :=
  match v with
  | .agg cs => match allSc cs.toList with
    | true => .agg (cs.toList.map .lf)
    | false => .dead
  | .tuple _ => .dead
  | v => match isSc v with
    | true => .lf v
    | false => .dead

/-- Slots from this number on are no variables: they hold what the parameters held at the start. -/
def val (s : Sl) : Operand → V
  | .tmp t => match Nat.ble 1000000 t with | true => .dead | false => look s t
  | .const v => ofVal v
  | .func f => .fn f []
  | .global _ => .dead

/-- The cells of a value that is put somewhere. -/
def cellsK (v : V) (K : List V → Prop) : Prop :=
  match v with
  | .agg cs => K cs
  | .dead => False
  | .tup _ => False
  | v => K [v]

def put (d : Option Nat) (v : V) (s : Sl) : Sl :=
  match d with
  | some d => (d, v) :: s
  | none => s

/-- A value, laid open. -/
def fv (v : V) (K : V → Prop) : Prop :=
  match v with
  | .lf v => K (.lf v)
  | .dead => K .dead
  | .sl t c => K (.sl t c)
  | .pt t i f => K (.pt t i f)
  | .agg cs => K (.agg cs)
  | .tup vs => K (.tup vs)
  | .fn f cs => K (.fn f cs)
theorem fv_eq (v : V) (K : V → Prop) : fv v K = K v := by cases v <;> rfl
def putK (d : Option Nat) (v : V) (s : Sl) (K : Sl → Prop) : Prop :=
  match d with
  | some n => fv v fun v => K ((n, v) :: s)
  | none => K s
theorem putK_eq (d : Option Nat) (v : V) (s : Sl) (K : Sl → Prop) : putK d v s K = K (put d v s) := by cases d <;> simp [putK, put, fv_eq]
/-- A list of values, laid open. -/
def fvs (l : List V) (K : List V → Prop) : Prop :=
  match l with
  | [] => K []
  | v :: l => fv v fun v => fvs l fun l => K (v :: l)
theorem fvs_eq (l : List V) (K : List V → Prop) : fvs l K = K l := by
  induction l generalizing K with
  | nil => rfl
  | cons v l ih => simp [fvs, fv_eq, ih]
def lfs (l : List Value) (K : List V → Prop) : Prop :=
  match l with
  | [] => K []
  | v :: l => lfs l fun l => K (.lf v :: l)
theorem lfs_eq (l : List Value) (K : List V → Prop) : lfs l K = K (l.map .lf) := by
  induction l generalizing K with
  | nil => rfl
  | cons v l ih => simp [lfs, ih]
def addN (a b : Nat) : Nat := match a with | 0 => b | n + 1 => n + 1 + b
theorem addN_eq (a b : Nat) : addN a b = a + b := by cases a <;> simp [addN]

/-! No slot names an object that is not there (any more). -/
mutual
def hasRef (t : Nat) : V → Bool
  | .sl u _ => Nat.beq (u / 16) t
  | .pt u _ _ => Nat.beq (u / 16) t
  | .agg cs => hasRefs t cs
  | .tup cs => hasRefs t cs
  | .fn _ cs => hasRefs t cs
  | _ => false
def hasRefs (t : Nat) : List V → Bool
  | [] => false
  | v :: l => match hasRef t v with | true => true | false => hasRefs t l
end

def slRef (t : Nat) : Sl → Bool
  | [] => false
  | (_, v) :: r => match hasRef t v with | true => true | false => slRef t r
def elsRef (t : Nat) : List (List V) → Bool
  | [] => false
  | l :: r => match hasRefs t l with | true => true | false => elsRef t r
def hpRef (t : Nat) : Hp → Bool
  | [] => false
  | (_, some (.arr _ _ els)) :: r => match elsRef t els with | true => true | false => hpRef t r
  | (_, some (.foc _ _ _ _ cs)) :: r => match hasRefs t cs with | true => true | false => hpRef t r
  | _ :: r => hpRef t r

/-- The sixteen names of slot t are free for new objects. -/
def free (t : Nat) (s : Sl) (h : Hp) (K : Prop) : Prop :=
  match slRef t s with
  | true => False
  | false => match hpRef t h with
    | true => False
    | false => K

/-! Lists of cells -/
def takeK {β : Type} : Nat → List β → (List β → Prop) → Prop
  | 0, _, K => K []
  | n + 1, x :: l, K => takeK n l fun r => K (x :: r)
  | _ + 1, [], _ => False
def dropK {β : Type} : Nat → List β → (List β → Prop) → Prop
  | 0, l, K => K l
  | n + 1, _ :: l, K => dropK n l K
  | _ + 1, [], _ => False
/-- the cells from f on are put anew -/
def spliceK {β : Type _} : Nat → List β → List β → (List β → Prop) → Prop
  | 0, l, [], K => K l
  | 0, _ :: l, y :: ys, K => spliceK 0 l ys fun r => K (y :: r)
  | 0, [], _ :: _, _ => False
  | n + 1, x :: l, ys, K => spliceK n l ys fun r => K (x :: r)
  | _ + 1, [], _, _ => False
def setK {β : Type _} : Nat → List β → β → (List β → Prop) → Prop
  | 0, _ :: l, y, K => K (y :: l)
  | n + 1, x :: l, y, K => setK n l y fun r => K (x :: r)
  | _, [], _, _ => False
def subK {β : Type _} : (f n : Nat) → List β → (List β → Prop) → Prop
  | f + 1, n, _ :: l, K => subK f n l K
  | 0, 0, _, K => K []
  | 0, n + 1, x :: l, K => subK 0 n l fun r => K (x :: r)
  | _ + 1, _, [], _ => False
  | 0, _ + 1, [], _ => False

/-- A value of one part: a struct's cells, or the one cell. -/
def one (agg : Bool) (cs : List V) (K : V → Prop) : Prop :=
  match agg with
  | true => K (.agg cs)
  | false => match cs with
    | [c] => K c
    | _ => False

/-! ### Unfolding deep data: each slice and each variable behind an address becomes an object. -/
def shK : Kind → Kind
  | .own => .ro
  | k => k
mutual
def unf (k : Kind) : D → (t : Nat) → Hp → (V → Nat → Hp → Prop) → Prop
  | .lf v, t, h, K => K (.lf v) t h
  | .dead, t, h, K => K .dead t h
  | .row sz enc l, t, h, K => K (.sl t none) (t + 1) ((t, some (.row k sz enc l)) :: h)
  | .box cs, t, h, K => unfs k cs (t + 1) h fun vs t' h' =>
      match k with
      | .own => K (.pt t 0 0) t' ((t, some (.arr true cs.length [vs])) :: h')
      | _ => K (.pt t 0 0) t' ((t, some (.arr false cs.length [vs])) :: h')
  | .fn f cs, t, h, K => unfs k cs t h fun vs t' h' => K (.fn f vs) t' h'
  | .sh d, t, h, K => unf (shK k) d t h K
def unfs (k : Kind) : List D → (t : Nat) → Hp → (List V → Nat → Hp → Prop) → Prop
  | [], t, h, K => K [] t h
  | d :: l, t, h, K => unf k d t h fun v t' h' => unfs k l t' h' fun vs t'' h'' => K (v :: vs) t'' h''
end

/-! ### Deep data of a value, as it is read -/
def cutL {α : Type} (cut : Option (Nat × Nat)) (l : List α) : List α :=
  match cut with
  | none => l
  | some (o, n) => (l.drop o).take n

mutual
def rdD : Nat → (Nat → Option Ob) → V → (D → Prop) → Prop
  | 0, _, _, _ => False
  | _ + 1, _, .lf (.slice none 0 0), K => ∃ (sz : Nat) (α : Type) (enc : α → List D), (∀ a, (enc a).length = sz) ∧ K (.row sz enc [])
  | _ + 1, _, .lf v, K => K (.lf v)
  | n + 1, g, .sl t cut, K => match g t with
    | some (.row _ sz enc l) => K (.row sz enc (cutL cut l))
    | some (.arr _ sz els) => rdEls n g (cutL cut els) fun ds => ∃ (α : Type) (enc : α → List D) (l : List α), (∀ a, (enc a).length = sz) ∧ l.map enc = ds ∧ K (.row sz enc l)
    | some (.foc _ _ _ _ _) => False
    | none => K .dead
  | n + 1, g, .pt t i f, K => match g t with
    | some (.row _ _ enc l) => match f with
      | 0 => ex (nth l i) fun a => K (.box (enc a))
      | _ + 1 => False
    | some (.arr _ _ els) => match f with
      | 0 => ex (nth els i) fun cs => rdDs n g cs fun ds => K (.box ds)
      | _ + 1 => False
    | some (.foc _ _ _ _ _) => False
    | none => K .dead
  | n + 1, g, .fn f cs, K => rdDs n g cs fun ds => K (.fn f ds)
  | _, _, _, _ => False
def rdDs : Nat → (Nat → Option Ob) → List V → (List D → Prop) → Prop
  | 0, _, _, _ => False
  | _ + 1, _, [], K => K []
  | n + 1, g, v :: l, K => rdD n g v fun d => rdDs n g l fun ds => K (d :: ds)
def rdEls : Nat → (Nat → Option Ob) → List (List V) → (List (List D) → Prop) → Prop
  | 0, _, _, _ => False
  | _ + 1, _, [], K => K []
  | n + 1, g, v :: l, K => rdDs n g v fun d => rdEls n g l fun ds => K (d :: ds)
end
end Go.Vm
