/- A verified evaluator for Go code: operations, calls, code. -/
import Derived.Test.YtedffkngbjlgdaaGreatDoorVm0b
namespace Go.Vm
set_option linter.unusedVariables false

def appV {β : Type _} : List β → List β → List β
  | [], m => m
  | x :: l, m => x :: appV l m

/-- An object that a callee is given to change: its name, the size of its elements; the slot that holds its address. -/
inductive MT where
  | row (t sz : Nat)
  | box (t sz tmp : Nat)
  | leaf

def fuel : Nat := 40

/-- The cells of a struct that a callee is given to change. -/
def mutCs : List V → Hp → (List D → Hp → List MT → Prop) → Prop
  | [], h, K => K [] h []
  | v :: l, h, K => match v with
    | .lf (.slice none 0 0) => ∃ (sz : Nat) (α : Type) (enc : α → List D), (∀ a, (enc a).length = sz) ∧ mutCs l h fun ds h' ts => K (.row sz enc [] :: ds) h' (.leaf :: ts)
    | .lf u => mutCs l h fun ds h' ts => K (.lf u :: ds) h' (.leaf :: ts)
    | .sl t none => match lookO h t with
      | some (.row .own sz enc r) => mutCs l ((t, none) :: h) fun ds h' ts => K (.row sz enc r :: ds) h' (.row t sz :: ts)
      | _ => False
    | _ => False

/-- One argument, as the callee takes it. -/
def argK (m : Mode) (agg : Bool) (tmp : Option Nat) (v : V) (h : Hp) (K : List D → Hp → List MT → Prop) : Prop :=
  match agg, v with
  | true, .agg cs => match m with
    | .rd => rdDs fuel (lookO h) cs fun ds => K ds h []
    | .keep => mvDs fuel false h cs fun ds h' => K ds h' []
    | .take => mvDs fuel true h cs fun ds h' => K ds h' []
    | .mut => mutCs cs h K
  | true, _ => False
  | false, .agg _ => False
  | false, v => match m with
    | .rd => rdDs fuel (lookO h) [v] fun ds => K ds h []
    | .keep => mvDs fuel false h [v] fun ds h' => K ds h' []
    | .take => mvDs fuel true h [v] fun ds h' => K ds h' []
    | .mut => match v with
      | .sl t none => match lookO h t with
        | some (.row .own sz enc l) => K [.row sz enc l] ((t, none) :: h) [.row t sz]
        | _ => False
      | .pt t 0 0 => match tmp, lookO h t with
        | some x, some (.arr true sz [cs]) => mvDs fuel true ((t, none) :: h) cs fun ds h' => K [.box ds] h' [.box t sz x]
        | _, _ => False
      | _ => False

/-- The arguments: what is read is read when the others are handed over. -/
def argsK : List (Mode × Bool) → List (Option Nat × V) → Hp → (List (List D) → Hp → List MT → Prop) → Prop
  | [], [], h, K => K [] h []
  | (m, g) :: ps, (x, v) :: vs, h, K => match m with
    | .rd => argsK ps vs h fun ds h' ts => argK .rd g x v h' fun d _ _ => K (d :: ds) h' ts
    | .keep => argK .keep g x v h fun d h' _ => argsK ps vs h' fun ds h'' ts => K (d :: ds) h'' ts
    | .take => argK .take g x v h fun d h' _ => argsK ps vs h' fun ds h'' ts => K (d :: ds) h'' ts
    | .mut => argK .mut g x v h fun d h' ts => argsK ps vs h' fun ds h'' ts' => K (d :: ds) h'' (appV ts ts')
  | _, _, _, _ => False

/-- What the callee has left in the objects that it was given to change. -/
def outsK (s : Sl) : List MT → List (List D) → Hp → (Hp → Prop) → Prop
  | [], [], h, K => K h
  | .row t sz :: ts, [.row sz' enc l] :: os, h, K => match Nat.beq sz sz' with
    | true => outsK s ts os ((t, some (.row .own sz' enc l)) :: h) K
    | false => False
  | .leaf :: ts, [_] :: os, h, K => outsK s ts os h K
  | .box t sz x :: ts, [.box ds] :: os, h, K => match Nat.beq sz ds.length with
    | true => free x s h (unfs .own ds (16 * x) h fun vs t' h' =>
      match Nat.ble t' (16 * x + 16) with
      | true => outsK s ts os ((t, some (.arr true sz [vs])) :: h') K
      | false => False)
    | false => False
  | _, _, _, _ => False

def resK (k : Kind) : List Bool → List (List D) → Nat → Hp → (List V → Nat → Hp → Prop) → Prop
  | [], [], t, h, K => K [] t h
  | g :: gs, d :: ds, t, h, K => unfs k d t h fun cs t' h' => one g cs fun v => resK k gs ds t' h' fun vs t'' h'' => K (v :: vs) t'' h''
  | _, _, _, _, _ => False

def retV : List V → V
  | [v] => v
  | vs => .tup vs

def resKind (own : Bool) (K : Kind → Prop) : Prop := match own with | true => K .own | false => K .ro

/-- A call by its contract. -/
def callC (c : Con) (args : List (Option Nat × V)) (d : Option Nat) (s : Sl) (h : Hp) (K : Sl → Hp → Prop) : Prop :=
  argsK c.params args h fun ds h' ts =>
    ∃ x, c.ins x = ds ∧ ∀ outs res, c.post x outs res →
      outsK s ts outs h' fun h'' => match d with
        | some n => free n s h'' (resKind c.resOwn fun rk => resK rk c.res res (16 * n) h'' fun vs t' h3 =>
            match Nat.ble t' (16 * n + 16) with
            | true => K ((n, retV vs) :: s) h3
            | false => False)
        | none => K s h''

def opTmp : Operand → Option Nat
  | .tmp t => some t
  | _ => none

def valsK (ρ : Operand → V) : List Operand → List V
  | [] => []
  | o :: l => ρ o :: valsK ρ l
def argVals (ρ : Operand → V) : List Operand → List (Option Nat × V)
  | [] => []
  | o :: l => (opTmp o, ρ o) :: argVals ρ l
def capVals : List V → List (Option Nat × V)
  | [] => []
  | v :: l => (none, v) :: capVals l
/-- Objects that come back from a call have names of their own. -/
def relab : Nat → List (Option Nat × V) → List (Option Nat × V)
  | _, [] => []
  | b, (some _, v) :: l => (some b, v) :: relab (b + 1) l
  | b, (none, v) :: l => (none, v) :: relab (b + 1) l
def labB (d : Option Nat) (l : List Operand) : Nat :=
  match d with
  | some n => 300000 + 8 * n
  | none => match l with
    | .tmp t :: _ => 200000 + 8 * t
    | _ => 200000
def isIntTy (d : TyD) : Option Bool := match d with | .int _ => some true | .slice _ => some false | .string => some false | _ => none

def newRow (s : Sl) (h : Hp) (d : Option Nat) (k : Kind) (sz : Nat) (α : Type) (enc : α → List D) (l : List α) (K : Sl → Hp → Prop) : Prop :=
  match d with
  | some n => free n s h (K ((n, .sl (16 * n) none) :: s) ((16 * n, some (.row k sz enc l)) :: h))
  | none => False
def tg (d : Option Nat) : Nat := match d with | some n => 16 * n | none => 0

def ownKind (own : Bool) : Kind := match own with | true => .own | false => .mix

/-- New objects are put ahead. -/
def putN (d : Option Nat) (v : V) (new : Hp) (s : Sl) (h : Hp) (K : Sl → Hp → Prop) : Prop :=
  match new with
  | [] => putK d v s fun s1 => K s1 h
  | n :: new => match d with
    | some d => free d s h (fv v fun v => K ((d, v) :: s) (appV (n :: new) h))
    | none => False

def allRd : List (Mode × Bool) → Bool
  | [] => true
  | (.rd, _) :: l => allRd l
  | _ => false

/-- The arguments of a callee that only reads. -/
def argsRd (g : Nat → Option Ob) : List (Mode × Bool) → List (Option Nat × V) → (List (List D) → Prop) → Prop
  | [], [], K => K []
  | (_, true) :: ps, (_, .agg cs) :: vs, K => rdDs fuel g cs fun ds => argsRd g ps vs fun r => K (ds :: r)
  | (_, false) :: ps, (_, v) :: vs, K => match v with
    | .agg _ => False
    | v => rdDs fuel g [v] fun ds => argsRd g ps vs fun r => K (ds :: r)
  | _, _, _ => False

/-- A call that only reads, by its contract. -/
def callR (c : Con) (args : List (Option Nat × V)) (d : Option Nat) (g : Nat → Option Ob) (k : V → Hp → Prop) : Prop :=
  argsRd g c.params args fun ds => ∃ x, c.ins x = ds ∧ ∀ outs res, c.post x outs res → match outs, d with
    | [], some n => resKind c.resOwn fun rk => resK rk c.res res (16 * n) [] fun vs t' h3 =>
        match Nat.ble t' (16 * n + 16) with
        | true => k (retV vs) h3
        | false => False
    | [], none => k (.tup []) []
    | _, _ => False

/-- The deep cells of a part that is loaded out of a typed row: what is a slice there becomes an object that is read alone. -/
def loadRow (k : Kind) (agg : Bool) (sz f : Nat) (cs : List D) (d : Option Nat) (K : V → Hp → Prop) : Prop :=
  subK f sz cs fun ds => match flatL ds with
    | true => unfs .ro ds 0 [] fun vs _ _ => one agg vs fun v => K v []
    | false => match k, d with
      | .own, _ => False
      | _, none => False
      | .lent, some n => unfs .lent ds (16 * n) [] fun vs t' h' => one agg vs fun v =>
          match Nat.ble t' (16 * n + 16) with
          | true => K v h'
          | false => False
      | _, some n => unfs .ro ds (16 * n) [] fun vs t' h' => one agg vs fun v =>
          match Nat.ble t' (16 * n + 16) with
          | true => K v h'
          | false => False

def partsV (ρ : Operand → V) : List (Nat × Operand) → List (Nat × V)
  | [] => []
  | (i, o) :: l => (i, ρ o) :: partsV ρ l

def optV (ρ : Operand → V) : Option Operand → Option V
  | none => none
  | some o => some (ρ o)

/-- Captured variables: addresses. -/
def ptsK (ρ : Operand → V) : List Operand → (List V → Prop) → Prop
  | [], K => K []
  | o :: l, K => match ρ o with
    | .pt u i f => ptsK ρ l fun r => K (.pt u i f :: r)
    | _ => False
def rdLen (T : Tab) (ρ : Operand → V) (g : Nat → Option Ob) (k : V → Hp → Prop) : List Operand → List Nat → Prop
  | [x], [t] => ty T t fun ti => lenV ti.d g (ρ x) fun v => k v []
  | _, _ => False
def rdCap (T : Tab) (ρ : Operand → V) (g : Nat → Option Ob) (k : V → Hp → Prop) : List Operand → List Nat → Prop
  | [x], [t] => ty T t fun ti => match ti.d, ρ x with
    | .slice _, .sl t cut => lenOf g t cut fun _ n => ∀ c : Nat, n ≤ c → k (.lf (.int .i64 c)) []
    | _, _ => False
  | _, _ => False
def rdMax (ρ : Operand → V) (k : V → Hp → Prop) : List Operand → Prop
  | [x, y] => match ρ x, ρ y with
    | .lf (.int k1 a), .lf (.int k' b) => match decide (k1 = k') with | true => k (.lf (.int k1 (if b > a then b else a))) [] | false => False
    | .lf (.string a), .lf (.string b) => k (.lf (.string (if strLt a b then b else a))) []
    | _, _ => False
  | _ => False
def rdMin (ρ : Operand → V) (k : V → Hp → Prop) : List Operand → Prop
  | [x, y] => match ρ x, ρ y with
    | .lf (.int k1 a), .lf (.int k' b) => match decide (k1 = k') with | true => k (.lf (.int k1 (if b < a then b else a))) [] | false => False
    | _, _ => False
  | _ => False
def rdApp (T : Tab) (dst : Option Nat) (ρ : Operand → V) (g : Nat → Option Ob) (k : V → Hp → Prop) : List Operand → List Nat → Prop
  | [x, y], [tx, tyy] => ty T tx fun xi => match xi.d with
    | .slice e => ty T e fun ei => ty T tyy fun yi => match isIntTy yi.d, ρ x with
      | some false, .lf (.slice none 0 0) => elsK g (ρ y) ei.size fun ds => ∃ (α : Type) (enc : α → List D) (m : List α), (∀ a, (enc a).length = ei.size) ∧ m.map enc = ds ∧ m.length ≤ lim ∧
          k (.sl (tg dst) none) [(tg dst, some (.row .own ei.size enc m))]
      | _, _ => False
    | _ => False
  | _, _ => False
def rdBi (T : Tab) (b : Builtin) (args : List Operand) (tys : List Nat) (dst : Option Nat) (ρ : Operand → V) (g : Nat → Option Ob) (k : V → Hp → Prop) : Prop :=
  match b with
  | .len => rdLen T ρ g k args tys
  | .cap => rdCap T ρ g k args tys
  | .max => rdMax ρ k args
  | .min => rdMin ρ k args
  | .append => rdApp T dst ρ g k args tys
  | _ => False

/-- Operations that change nothing but their own slot: by the operands' values and the objects. -/
def rdOp (T : Tab) (S : Cons) (op : Op) (dst : Option Nat) (ρ : Operand → V) (g : Nat → Option Ob) (k : V → Hp → Prop) : Prop :=
  match op with
  | .move x => k (ρ x) []
  | .assign x => k (ρ x) []
  | .pick c a b => match ρ c with
    | .lf (.bool t) => brb t fun t => match t with | true => k (ρ a) [] | false => k (ρ b) []
    | _ => False
  | .alloc e => ty T e fun i => lfs i.zero fun z => k (.pt (tg dst) 0 0) [(tg dst, some (.arr true i.size [z]))]
  | .box e x => ty T e fun i => cellsK (ρ x) fun cs => match Nat.beq cs.length i.size with
    | true => fvs cs fun cs => k (.pt (tg dst) 0 0) [(tg dst, some (.arr true i.size [cs]))]
    | false => False
  | .build t ps => ty T t fun i => match i.d with
    | .struct fs => lfs i.zero fun z => fillK fs (partsV ρ ps.toList) z fun cs => fvs cs fun cs => k (.agg cs) []
    | _ => False
  | .buildSlice t n ps => ty T t fun i => match i.d with
    | .slice e => ty T e fun ei => match Nat.ble (n * ei.size + n) 1000 with
      | true => lfs ei.zero fun z => fillEls ei.size (partsV ρ ps.toList) (reps n z) fun els => k (.sl (tg dst) none) [(tg dst, some (.arr true ei.size els))]
      | false => False
    | _ => False
  | .load t a => ty T t fun i => match ρ a with
    | .pt u j f => match g u with
      | some (.arr _ _ els) => ex (nth els j) fun cs => subK f i.size cs fun vs => one i.agg vs fun v => k v []
      | some (.row kd _ enc l) => ex (nth l j) fun x => loadRow kd i.agg i.size f (enc x) dst k
      | some (.foc _ _ _ q cs) => j = q ∧ subK f i.size cs fun vs => one i.agg vs fun v => k v []
      | none => False
    | _ => False
  | .nilCheck x => match ρ x with
    | .pt u j f => k (.pt u j f) []
    | .fn f cs => k (.fn f cs) []
    | _ => False
  | .binOp op t x y _ => binV T op t (ρ x) (ρ y) fun v => k v []
  | .unOp op _ x => unV op (ρ x) fun v => k v []
  | .convert a b x => convV T g a b (ρ x) (fun v => k v []) (fun l => k (.sl (tg dst) none) [(tg dst, some (.row .ro 1 encB l))])
  | .slice t x lo hi mx => ty T t fun i => match i.d with
    | .string => match ρ x with
      | .lf (.string b) => sliceV g 0 (.lf (.string b)) (optV ρ lo) (optV ρ hi) (optV ρ mx) fun v => k v []
      | _ => False
    | .slice e => ty T e fun ei => match ρ x with
      | .lf (.slice none 0 0) => sliceV g ei.size (.lf (.slice none 0 0)) (optV ρ lo) (optV ρ hi) (optV ρ mx) fun v => k v []
      | .sl t cut => sliceV g ei.size (.sl t cut) (optV ρ lo) (optV ρ hi) (optV ρ mx) fun v => k v []
      | _ => False
    | _ => False
  | .fieldAddr t x f => ty T t fun i => match i.d, ρ x with
    | .struct fs, .pt u j o => match nth fs f with
      | some (_, off, _, _) => k (.pt u j (addN o off)) []
      | none => False
    | _, _ => False
  | .field t x f => ty T t fun i => match i.d, ρ x with
    | .struct fs, .agg cs => match nth fs f with
      | some (_, off, n, a) => subK off n cs fun vs => one a vs fun v => k v []
      | none => False
    | _, _ => False
  | .indexAddr t x i => ty T t fun ti => match ti.d with
    | .slice e => ty T e fun ei => match ρ x, ρ i with
      | .sl u cut, .lf (.int _ n) => lenOf g u cut fun sz m => match Nat.beq sz ei.size with
        | true => 0 ≤ n ∧ n < m ∧ k (.pt u (offOf cut n.toNat) 0) []
        | false => False
      | _, _ => False
    | _ => False
  | .index t x i => ty T t fun ti => match ti.d with
    | .string => match ρ x, ρ i with
      | .lf (.string b), .lf (.int _ n) => 0 ≤ n ∧ n < b.size ∧ k (.lf (.int .u8 (bt b n))) []
      | _, _ => False
    | _ => False
  | .extract x i => match ρ x with
    | .tup vs => match nth vs i with
      | some v => k v []
      | none => False
    | _ => False
  | .makeFunc fn first caps => match fn, first.toList with
    | .func f, [] => ptsK ρ caps.toList fun cs => k (.fn f cs) []
    | _, _ => False
  | .makeSlice t n c => ty T t fun i => match i.d with
    | .slice e => ty T e fun ei => match ρ n, ρ c with
      | .lf (.int .i64 a), .lf (.int .i64 b) => 0 ≤ a ∧ a = b ∧ a ≤ lim ∧ ∃ (α : Type) (enc : α → List D) (z : α), (∀ x, (enc x).length = ei.size) ∧ enc z = ei.zero.map .lf ∧
          k (.sl (tg dst) none) [(tg dst, some (.row .own ei.size enc (List.replicate a.toNat z)))]
      | _, _ => False
    | _ => False
  | .call c => match c.callee with
    | .builtin b => rdBi T b c.args.toList c.argTypes.toList dst ρ g k
    | .value f => match ρ f with
      | .fn n caps => con S n fun cc => match allRd cc.params with
        | true => callR cc (appV (argVals ρ c.args.toList) (capVals caps)) dst g k
        | false => False
      | _ => False
    | _ => False
  | _ => False

/-- Whether an operation only reads. -/
def isRd (T : Tab) (S : Cons) (op : Op) (ρ : Operand → V) : Prop → Prop → Prop := fun a b =>
  match op with
  | .store _ _ _ => b
  | .call c => match c.callee with
    | .builtin x => match x with
      | .append => match c.args.toList, c.argTypes.toList with
        | .const (.slice none 0 0) :: _, tx :: _ => ty T tx fun xi => match xi.d with
          | .slice e => ty T e fun ei => match ei.flat with | true => a | false => b
          | _ => False
        | _, _ => b
      | .copy => b
      | .clear => b
      | _ => a
    | .value f => match ρ f with
      | .fn n _ => con S n fun cc => match allRd cc.params with | true => a | false => b
      | _ => False
    | _ => False
  | _ => a

def wrApp (T : Tab) (dst : Option Nat) (s : Sl) (h : Hp) (K : Sl → Hp → Prop) : List Operand → List Nat → Prop
  | [x, y], [tx, tyy] => ty T tx fun xi => match xi.d with
    | .slice e => ty T e fun ei => ty T tyy fun yi => match isIntTy yi.d with
      | none => False
      | some true => False
      | some false => baseK fuel h (val s x) ei.size fun own α enc l h' => srcK fuel ei.flat own h' (val s y) ei.size fun ds h'' =>
          ∃ m : List α, m.map enc = ds ∧ l.length + m.length ≤ lim ∧ newRow s h'' dst (ownKind own) ei.size α enc (l ++ m) K
    | _ => False
  | _, _ => False
def wrClear (T : Tab) (dst : Option Nat) (s : Sl) (h : Hp) (K : Sl → Hp → Prop) : List Operand → List Nat → Prop
  | [x], [tx] => ty T tx fun xi => match xi.d with
    | .slice e => ty T e fun ei => match val s x with
      | .sl t (some (o, n)) => match lookO h t with
        | some (.row k sz (α := α) enc l) => match Nat.beq sz ei.size, k with
          | true, .own => ∃ z : α, enc z = ei.zero.map .lf ∧ putK dst (.tup []) s fun s1 => K s1 ((t, some (.row .own sz enc (l.take o ++ List.replicate n z ++ l.drop (o + n)))) :: h)
          | _, _ => False
        | _ => False
      | _ => False
    | _ => False
  | _, _ => False

/-- Operations that change objects. -/
def wrOp (T : Tab) (S : Cons) (op : Op) (dst : Option Nat) (s : Sl) (h : Hp) (K : Sl → Hp → Prop) : Prop :=
  match op with
  | .store t a x => ty T t fun i => match val s a with
    | .pt u j f => cellsK (val s x) fun xs => match Nat.beq xs.length i.size with
      | true => match lookO h u with
        | some (.arr true sz els) => ex (nth els j) fun cs => fvs xs fun vs => spliceK f cs vs fun cs' => setK j els cs' fun els' => putK dst (.tup []) s fun s1 => K s1 ((u, some (.arr true sz els')) :: h)
        | some (.row k sz (α := α) enc l) => ex (nth l j) fun y => match k with
          | .own => mvDs fuel true ((u, none) :: h) xs fun ds h' => spliceK f (enc y) ds fun cs' => ∃ y' : α, enc y' = cs' ∧
              putK dst (.tup []) s fun s1 => K s1 ((u, some (.row .own sz enc (l.set j y'))) :: h')
          | .mix => mvDs fuel false ((u, none) :: h) xs fun ds h' => spliceK f (enc y) ds fun cs' => ∃ y' : α, enc y' = cs' ∧
              putK dst (.tup []) s fun s1 => K s1 ((u, some (.row .mix sz enc (l.set j y'))) :: h')
          | _ => False
        | some (.foc sz enc l q cs) => j = q ∧ fvs xs fun vs => spliceK f cs vs fun cs' => putK dst (.tup []) s fun s1 => K s1 ((u, some (.foc sz enc l q cs')) :: h)
        | _ => False
      | false => False
    | _ => False
  | .call c => match c.callee with
    | .builtin b => match b with
      | .append => wrApp T dst s h K c.args.toList c.argTypes.toList
      | .copy => False
      | .clear => wrClear T dst s h K c.args.toList c.argTypes.toList
      | _ => False
    | .value f => match val s f with
      | .fn n caps => con S n fun cc => callC cc (relab (labB dst c.args.toList) (appV (argVals (val s) c.args.toList) (capVals caps))) dst s h K
      | _ => False
    | _ => False
  | _ => False

def evOp (T : Tab) (S : Cons) (op : Op) (dst : Option Nat) (s : Sl) (h : Hp) (K : Sl → Hp → Prop) : Prop :=
  isRd T S op (val s) (rdOp T S op dst (val s) (lookO h) fun v new => putN dst v new s h K) (wrOp T S op dst s h K)

def beqB : Bool → Bool → Bool
  | true, b => b
  | false, true => false
  | false, false => true

/-- An operation under its guard. -/
def gdK (ops : List Oper) (g : Option (Nat × Bool)) (s : Sl) (K : Bool → Sl → Prop) : Prop :=
  match g with
  | none => K true s
  | some (j, want) => match nth ops j with
    | some ⟨some d, _, _, _, _, _⟩ => match val s (.tmp d) with
      | .lf (.bool b) => brb b fun b' => K (beqB b' want) ((d, .lf (.bool b')) :: s)
      | .tup [] => K false s
      | _ => False
    | _ => False

def evG (T : Tab) (S : Cons) (ops : List Oper) (o : Oper) (s : Sl) (h : Hp) (K : Sl → Hp → Prop) : Prop :=
  match o with
  | ⟨dst, op, _, _, _, g⟩ => gdK ops g s fun b s' => match b with
    | true => evOp T S op dst s' h K
    | false => putK dst (.tup []) s' fun s1 => K s1 h

def evOps (T : Tab) (S : Cons) (ops : List Oper) : List Oper → Sl → Hp → (Sl → Hp → Prop) → Prop
  | [], s, h, K => K s h
  | o :: r, s, h, K => evG T S ops o s h fun s' h' => evOps T S ops r s' h' K

inductive E where
  | normal | exit (id : Nat) | ret

/-! A state that says less: some slots, some objects of it, under new names -/
def renN : List (Nat × Nat) → Nat → Option Nat
  | [], _ => none
  | (a, b) :: r, t => match Nat.beq a t with | true => some b | false => renN r t
def invN : List (Nat × Nat) → Nat → Option Nat
  | [], _ => none
  | (a, b) :: r, t => match Nat.beq b t with | true => some a | false => invN r t
def renOk : List (Nat × Nat) → Bool
  | [] => true
  | (a, b) :: r => match renN r a with
    | some _ => false
    | none => match invN r b with
      | some _ => false
      | none => renOk r
mutual
def renV (ρ : List (Nat × Nat)) : V → V
  | .sl t c => match renN ρ t with | some u => .sl u c | none => .dead
  | .pt t i f => match renN ρ t with | some u => .pt u i f | none => .dead
  | .agg cs => .agg (renVs ρ cs)
  | .tup cs => .tup (renVs ρ cs)
  | .fn f cs => .fn f (renVs ρ cs)
  | .lf v => .lf v
  | .dead => .dead
def renVs (ρ : List (Nat × Nat)) : List V → List V
  | [] => []
  | v :: l => renV ρ v :: renVs ρ l
end
def renEls (ρ : List (Nat × Nat)) : List (List V) → List (List V)
  | [] => []
  | e :: l => renVs ρ e :: renEls ρ l
def renO (ρ : List (Nat × Nat)) : Ob → Ob
  | .row k sz enc l => .row k sz enc l
  | .arr own sz els => .arr own sz (renEls ρ els)
  | .foc sz enc l j cs => .foc sz enc l j (renVs ρ cs)
def renOO (ρ : List (Nat × Nat)) : Option Ob → Option Ob
  | some o => some (renO ρ o)
  | none => none
def LeS (ρ : List (Nat × Nat)) : Sl → Sl → Prop
  | [], _ => True
  | (n, v) :: r, s => renV ρ (look s n) = v ∧ LeS ρ r s
def LeH (ρ : List (Nat × Nat)) : Hp → Hp → Prop
  | [], _ => True
  | (_, none) :: r, h => LeH ρ r h
  | (t, some o) :: r, h => (match invN ρ t with
    | some u => renOO ρ (lookO h u) = some o
    | none => False) ∧ LeH ρ r h
structure Le (ρ : List (Nat × Nat)) (s' : Sl) (h' : Hp) (s : Sl) (h : Hp) : Prop where
  ok : renOk ρ = true
  s : LeS ρ s' s
  h : LeH ρ h' h

def rdDetLoad (T : Tab) (ρ : Operand → V) (g : Nat → Option Ob) (t : Nat) (a : Operand) (k : V → Prop) : Prop :=
  ty T t fun i => match ρ a with
    | .pt u j f => match g u with
      | some (.arr _ _ els) => ex (nth els j) fun cs => subK f i.size cs fun vs => one i.agg vs k
      | some (.row kd _ enc l) => ex (nth l j) fun x => subK f i.size (enc x) fun ds => match flatL ds with
        | true => unfs .ro ds 0 [] fun vs _ _ => one i.agg vs k
        | false => False
      | some (.foc _ _ _ q cs) => j = q ∧ subK f i.size cs fun vs => one i.agg vs k
      | none => False
    | _ => False

/-- The value of an operation that changes nothing. -/
def rdDet (T : Tab) (S : Cons) (op : Op) (ρ : Operand → V) (g : Nat → Option Ob) (k : V → Prop) : Prop :=
  match op with
  | .load t a => rdDetLoad T ρ g t a k
  | .convert a b x => convV T g a b (ρ x) k (fun _ => False)
  | .move x => k (ρ x)
  | .pick c a b => rdOp T S (.pick c a b) none ρ g fun v _ => k v
  | .nilCheck x => rdOp T S (.nilCheck x) none ρ g fun v _ => k v
  | .binOp op t x y u => rdOp T S (.binOp op t x y u) none ρ g fun v _ => k v
  | .unOp op t x => rdOp T S (.unOp op t x) none ρ g fun v _ => k v
  | .slice t x lo hi mx => rdOp T S (.slice t x lo hi mx) none ρ g fun v _ => k v
  | .fieldAddr t x f => rdOp T S (.fieldAddr t x f) none ρ g fun v _ => k v
  | .field t x f => rdOp T S (.field t x f) none ρ g fun v _ => k v
  | .indexAddr t x i => rdOp T S (.indexAddr t x i) none ρ g fun v _ => k v
  | .index t x i => rdOp T S (.index t x i) none ρ g fun v _ => k v
  | .extract x i => rdOp T S (.extract x i) none ρ g fun v _ => k v
  | .makeFunc fn f1 cs => rdOp T S (.makeFunc fn f1 cs) none ρ g fun v _ => k v
  | .build t ps => rdOp T S (.build t ps) none ρ g fun v _ => k v
  | .call c => match c.callee with
    | .builtin .len => rdLen T ρ g (fun v _ => k v) c.args.toList c.argTypes.toList
    | .builtin .max => rdMax ρ (fun v _ => k v) c.args.toList
    | .builtin .min => rdMin ρ (fun v _ => k v) c.args.toList
    | _ => False
  | _ => False

/-! ### Regions whose order is drawn -/
def memN (n : Nat) : List Nat → Bool
  | [] => false
  | k :: l => match Nat.beq k n with | true => true | false => memN n l
def allIn : List Nat → List Nat → Bool
  | [], _ => true
  | k :: l, X => match memN k X with | true => allIn l X | false => false
def anyIn : List Nat → List Nat → Bool
  | [], _ => false
  | k :: l, X => match memN k X with | true => true | false => anyIn l X
def bindsA (e : Edge) : Bool := match e.ground with | .textOnly _ => false | .gcOnly _ => false | _ => true
def depsL : List Edge → List Nat
  | [] => []
  | e :: l => match bindsA e with | true => e.on :: depsL l | false => depsL l
def Oper.deps (o : Oper) : List Nat := depsL o.after.toList
def tyNS (T : Tab) (t : Nat) : Bool :=
  match T with
  | [] => false
  | (k, i) :: r => match Nat.beq k t with
    | true => match i.d with | .slice _ => false | _ => true
    | false => tyNS r t
/-- Operations that give a value and change nothing. -/
def isDet (T : Tab) (op : Op) : Bool :=
  match op with
  | .load _ _ => true
  | .convert _ b _ => tyNS T b
  | .move _ => true
  | .pick _ _ _ => true
  | .nilCheck _ => true
  | .binOp _ _ _ _ _ => true
  | .unOp _ _ _ => true
  | .slice _ _ _ _ _ => true
  | .fieldAddr _ _ _ => true
  | .field _ _ _ => true
  | .indexAddr _ _ _ => true
  | .index _ _ _ => true
  | .extract _ _ => true
  | .makeFunc _ _ _ => true
  | .build _ _ => true
  | .call c => match c.callee with
    | .builtin .len => true
    | .builtin .max => true
    | .builtin .min => true
    | _ => false
  | _ => false
def isAl (op : Op) : Bool := match op with | .alloc _ => true | _ => false
def isHv (T : Tab) (op : Op) : Bool := match isDet T op with | true => false | false => match isAl op with | true => false | false => true
/-- The first operation of kind f that is not in X, all that it waits for being in X. -/
def nextOf (f : Op → Bool) (X : List Nat) : Nat → List Oper → Option (Nat × Oper)
  | _, [] => none
  | i, o :: r => match memN i X with
    | true => nextOf f X (i + 1) r
    | false => match f o.op with
      | false => nextOf f X (i + 1) r
      | true => match allIn (Oper.deps o) X with
        | true => some (i, o)
        | false => nextOf f X (i + 1) r
def allOf (f : Op → Bool) (X : List Nat) : Nat → List Oper → List (Nat × Oper)
  | _, [] => []
  | i, o :: r => match memN i X with
    | true => allOf f X (i + 1) r
    | false => match f o.op with
      | false => allOf f X (i + 1) r
      | true => match allIn (Oper.deps o) X with
        | true => (i, o) :: allOf f X (i + 1) r
        | false => allOf f X (i + 1) r
/-- Those of L (in order) that wait for one of M, and M. -/
def closeM (ops : List Oper) : List Nat → List Nat → List Nat
  | [], M => M
  | q :: L, M => match nth ops q with
    | some o => match anyIn (Oper.deps o) M with | true => closeM ops L (q :: M) | false => closeM ops L M
    | none => closeM ops L M
def anyNonDet (T : Tab) (ops : List Oper) : List Nat → Bool
  | [] => false
  | q :: L => match nth ops q with
    | some o => match isDet T o.op with | true => anyNonDet T ops L | false => true
    | none => anyNonDet T ops L
def revN : List Nat → List Nat → List Nat
  | [], r => r
  | x :: l, r => revN l (x :: r)
/-- Those of X that may not have run yet. -/
def pendL (T : Tab) (ops : List Oper) (Xr : List Nat) : List Nat → List Nat
  | [] => []
  | p :: L => match nth ops p with
    | some o => match isDet T o.op with
      | true => match anyNonDet T ops (closeM ops Xr [p]) with
        | true => pendL T ops Xr L
        | false => p :: pendL T ops Xr L
      | false => pendL T ops Xr L
    | none => pendL T ops Xr L
def rc (T : Tab) (S : Cons) (ops : List Oper) (s : Sl) (h : Hp) (p : Nat) : Prop :=
  match nth ops p with
  | some ⟨some d, op, _, _, _, none⟩ => rdDet T S op (val s) (lookO h) fun v => v = look s d
  | some ⟨some d, op, _, _, _, some (j, want)⟩ => match nth ops j with
    | some ⟨some dg, _, _, _, _, _⟩ => match val s (.tmp dg) with
      | .lf (.bool b) => match beqB b want with
        | true => rdDet T S op (val s) (lookO h) fun v => v = look s d
        | false => look s d = .tup []
      | .tup [] => look s d = .tup []
      | _ => False
    | _ => False
  | _ => False
def rcs (T : Tab) (S : Cons) (ops : List Oper) (s : Sl) (h : Hp) : List Nat → Prop → Prop
  | [], K => K
  | p :: L, K => rc T S ops s h p ∧ rcs T S ops s h L K
def tmpsOf : List Operand → List Nat
  | [] => []
  | .tmp t :: l => t :: tmpsOf l
  | _ :: l => tmpsOf l
def dstAt (ops : List Oper) (j : Nat) : List Nat :=
  match nth ops j with
  | some o => match o.dst with | some d => [d] | none => []
  | none => []
def looksL (ops : List Oper) (o : Oper) : List Nat :=
  match o.guard with
  | some (j, _) => appV (dstAt ops j) (tmpsOf o.op.operands.toList)
  | none => tmpsOf o.op.operands.toList
/-- The slots of q that another one fills: it waits for that one, or that one, which is no mere value, waits for it. -/
def slotsQ (T : Tab) (q : Nat) (dq : List Nat) (L : List Nat) : Nat → List Oper → Bool
  | _, [] => true
  | p, o :: r => match o.dst with
    | none => slotsQ T q dq L (p + 1) r
    | some d => match memN d L with
      | false => slotsQ T q dq L (p + 1) r
      | true => match memN p dq with
        | true => slotsQ T q dq L (p + 1) r
        | false => match isHv T o.op with
          | false => false
          | true => match memN q (Oper.deps o) with
            | true => slotsQ T q dq L (p + 1) r
            | false => false
def slotsAll (T : Tab) (ops : List Oper) : Nat → List Oper → Bool
  | _, [] => true
  | q, o :: r => match slotsQ T q (Oper.deps o) (looksL ops o) 0 ops with
    | true => slotsAll T ops (q + 1) r
    | false => false
def dsts : List Oper → List Nat
  | [] => []
  | o :: r => match o.dst with | some d => d :: dsts r | none => dsts r
def distinct : List Nat → Bool
  | [] => true
  | x :: l => match memN x l with | true => false | false => distinct l
def tyHas (T : Tab) (t : Nat) : Bool :=
  match T with
  | [] => false
  | (k, _) :: r => match Nat.beq k t with | true => true | false => tyHas r t
def alHas (T : Tab) (op : Op) : Bool := match op with | .alloc e => tyHas T e | _ => false
def kindsOk (T : Tab) : List Oper → Bool
  | [] => true
  | o :: r => match isHv T o.op with
    | true => match o.op with
      | .select _ _ => false
      | _ => kindsOk T r
    | false => match o.dst with
      | none => false
      | some _ => match isAl o.op with
        | false => kindsOk T r
        | true => match alHas T o.op with
          | false => false
          | true => match o.guard with
            | none => kindsOk T r
            | some _ => false
/-- New variables that are not in X; their slots are forgotten. -/
def alOut (X : List Nat) : Nat → List Oper → List Nat
  | _, [] => []
  | i, o :: r => match isAl o.op with
    | false => alOut X (i + 1) r
    | true => match memN i X with
      | true => alOut X (i + 1) r
      | false => i :: alOut X (i + 1) r
def deadAt (ops : List Oper) (s : Sl) : List Nat → Bool
  | [] => true
  | i :: l => match nth ops i with
    | some ⟨some d, _, _, _, _, _⟩ => match look s d with
      | .dead => deadAt ops s l
      | _ => false
    | _ => false
def forgetAl : List Oper → Sl → Sl
  | [], s => s
  | o :: r, s => match isAl o.op with
    | true => match o.dst with
      | some d => (d, .dead) :: forgetAl r s
      | none => forgetAl r s
    | false => forgetAl r s
def anyOut (X A : List Nat) : List Nat → Bool
  | [] => false
  | k :: l => match memN k X with
    | true => anyOut X A l
    | false => match memN k A with
      | true => anyOut X A l
      | false => true
/-- What waits for a new variable that is not there yet waits for something else, too. -/
def dynOk (X A : List Nat) : Nat → List Oper → Bool
  | _, [] => true
  | i, o :: r => match memN i X with
    | true => dynOk X A (i + 1) r
    | false => match memN i A with
      | true => dynOk X A (i + 1) r
      | false => match anyIn (Oper.deps o) A with
        | false => dynOk X A (i + 1) r
        | true => match anyOut X A (Oper.deps o) with
          | true => dynOk X A (i + 1) r
          | false => false
def noLong : List (Nat × Oper) → List Nat → Bool
  | [], [_] => true
  | _, _ => false
/-- .. or it is the one thing that is left. -/
def dynB (T : Tab) (X : List Nat) (ops : List Oper) : Bool :=
  match dynOk X (alOut X 0 ops) 0 ops with
  | true => true
  | false => noLong (allOf (isHv T) X 0 ops) (alOut X 0 ops)
def covers (X : List Nat) : Nat → List Oper → Bool
  | _, [] => true
  | i, _ :: r => match memN i X with | true => covers X (i + 1) r | false => false
def forK : List (Nat × Oper) → (Nat → Oper → Prop) → Prop
  | [], _ => True
  | [p], f => f p.1 p.2
  | p :: l, f => f p.1 p.2 ∧ forK l f
def ifNil (A : List Nat) (L : List Nat) (T : Tab) (S : Cons) (ops : List Oper) (s : Sl) (h : Hp) (K : Prop) : Prop :=
  match A with
  | [] => K
  | _ => rcs T S ops s h L K

def evDraw (T : Tab) (S : Cons) (ops : List Oper) : Nat → List Nat → Sl → Hp → (Sl → Hp → Prop) → Prop
  | 0, _, _, _, _ => False
  | n + 1, X, s, h, K => match deadAt ops s (alOut X 0 ops) with
    | false => False
    | true => match nextOf (isDet T) X 0 ops with
      | some (i, o) => gdK ops o.guard s fun b s' => match b with
        | true => rdOp T S o.op o.dst (val s') (lookO h) fun v new => putN o.dst v new s' h fun s1 h1 => evDraw T S ops n (i :: X) s1 h1 K
        | false => putK o.dst (.tup []) s' fun s1 => evDraw T S ops n (i :: X) s1 h K
      | none => match dynB T X ops with
        | false => False
        | true => ifNil (alOut X 0 ops) (pendL T ops (revN X []) X) T S ops s h (match allOf (isHv T) X 0 ops with
          | [] => match nextOf isAl X 0 ops with
            | some (i, o) => rdOp T S o.op o.dst (val s) (lookO h) fun v new => putN o.dst v new s h fun s1 h1 => evDraw T S ops n (i :: X) s1 h1 K
            | none => match covers X 0 ops with
              | true => K s h
              | false => False
          | p :: l => forK (p :: l) fun i o => evG T S ops o s h fun s' h' =>
              rcs T S ops s' h' (pendL T ops (revN (i :: X) []) X) (evDraw T S ops n (i :: X) s' h' K))

def drawOk (T : Tab) (ops : List Oper) (K : Prop) : Prop :=
  match slotsAll T ops 0 ops with
  | false => False
  | true => match distinct (dsts ops) with
    | false => False
    | true => match kindsOk T ops with
      | false => False
      | true => K

/-! ### Moves that the program does not see -/
inductive GC where
  | row (t : Nat)         -- elements whose cells are slots become a typed row
  | opn (t n : Nat)       -- the elements of one's own row of one cell each become slots; new objects under the names of slot n
  | foc (t j n : Nat)     -- one element of one's own row becomes slots
  | unf (t : Nat)         -- and comes back
  | nls (x n : Nat)       -- slot x, which holds no row, holds an empty one, under slot n's name
  | nlc (t j f n : Nat)   -- the same of a cell
  | enc (t : Nat)         -- a row's elements told as others of the same deep data
  | mixr (t : Nat)        -- what lies in the cells of one's own row is read alone from here on
  | cutc (t j f : Nat)    -- a cell that holds all of a row: the row cut at its ends

def encs {α : Type} (enc : α → List D) : List α → List D
  | [] => []
  | a :: r => appV (enc a) (encs enc r)
def wrap1 {β : Type} : List β → List (List β)
  | [] => []
  | v :: l => [v] :: wrap1 l
def nonE {β : Type} : List β → Prop → Prop
  | [], _ => False
  | _ :: _, p => p
def gh1 (g : GC) (s : Sl) (h : Hp) (K : Sl → Hp → Prop) : Prop :=
  match g with
  | .row t => match lookO h t with
    | some (.arr true sz els) => mvEls fuel true ((t, none) :: h) els fun ds h' => ∃ (α : Type) (enc : α → List D) (l : List α), (∀ a, (enc a).length = sz) ∧ l.map enc = ds ∧ K s ((t, some (.row .own sz enc l)) :: h')
    | _ => False
  | .opn t n => match lookO h t with
    | some (.row .own sz enc l) => nonE l (match Nat.beq sz 1 with
      | true => match Nat.beq (t / 16) n with
        | true => False
        | false => free n s h (unfs .own (encs enc l) (16 * n) ((t, none) :: h) fun vs t' h' => match Nat.ble t' (16 * n + 16) with
          | true => K s ((t, some (.arr true 1 (wrap1 vs))) :: h')
          | false => False)
      | false => False)
    | _ => False
  | .foc t j n => match lookO h t with
    | some (.row .own sz enc l) => ex (nth l j) fun y => match Nat.beq (t / 16) n with
      | true => False
      | false => free n s h (unfs .own (enc y) (16 * n) ((t, none) :: h) fun vs t' h' => match Nat.ble t' (16 * n + 16) with
        | true => K s ((t, some (.foc sz enc l j vs)) :: h')
        | false => False)
    | _ => False
  | .unf t => match lookO h t with
    | some (.foc sz enc l j cs) => mvDs fuel true ((t, none) :: h) cs fun ds h' => ∃ y', enc y' = ds ∧ K s ((t, some (.row .own sz enc (l.set j y'))) :: h')
    | _ => False
  | .nls x n => match look s x with
    | .lf (.slice none 0 0) => free n s h (∃ (sz : Nat) (α : Type) (enc : α → List D), (∀ a, (enc a).length = sz) ∧ K ((x, .sl (16 * n) none) :: s) ((16 * n, some (.row .own sz enc [])) :: h))
    | _ => False
  | .nlc t j f n => match lookO h t with
    | some (.arr own sz els) => ex (nth els j) fun cs => ex (nth cs f) fun c => match c with
      | .lf (.slice none 0 0) => match Nat.beq t (16 * n) with
        | true => False
        | false => free n s h (∃ (sz' : Nat) (α : Type) (enc : α → List D), (∀ a, (enc a).length = sz') ∧
          setK f cs (.sl (16 * n) none) fun cs' => setK j els cs' fun els' => K s ((t, some (.arr own sz els')) :: (16 * n, some (.row .own sz' enc [])) :: h))
      | _ => False
    | _ => False
  | .enc t => match lookO h t with
    | some (.row k sz enc l) => ∃ (α' : Type) (enc' : α' → List D) (l' : List α'), (∀ a, (enc' a).length = sz) ∧ l'.map enc' = l.map enc ∧ K s ((t, some (.row k sz enc' l')) :: h)
    | _ => False
  | .mixr t => match lookO h t with
    | some (.row .own sz enc l) => K s ((t, some (.row .mix sz enc l)) :: h)
    | _ => False
  | .cutc t j f => match lookO h t with
    | some (.arr own sz els) => ex (nth els j) fun cs => ex (nth cs f) fun c => match c with
      | .sl u none => match lookO h u with
        | some (.row k sz' enc l) => setK f cs (.sl u (some (0, l.length))) fun cs' => setK j els cs' fun els' => K s ((t, some (.arr own sz els')) :: h)
        | _ => False
      | _ => False
    | _ => False
def ghs : List GC → Sl → Hp → (Sl → Hp → Prop) → Prop
  | [], s, h, K => K s h
  | g :: l, s, h, K => gh1 g s h fun s' h' => ghs l s' h' K
/-- A region at which such moves are told is marked among the contracts. -/
def hasG : Cons → Nat → Bool
  | [], _ => false
  | (k, _) :: r, n => match Nat.beq k n with | true => true | false => hasG r n
def gst (S : Cons) (id : Nat) (s : Sl) (h : Hp) (K : Sl → Hp → Prop) : Prop :=
  match hasG S (1000000 + id) with
  | false => K s h
  | true => ∃ gs, ghs gs s h K

/-- Slots that hold the same in every round are kept; the others are told by I. -/
def ev (T : Tab) (S : Cons) : Code → Sl → Hp → (E → Sl → Hp → Prop) → Prop
  | .skip, s, h, K => K .normal s h
  | .ret, s, h, K => K .ret s h
  | .exit n, s, h, K => K (.exit n) s h
  | .region id ops draw, s, h, K => gst S id s h fun s h => match draw with
    | false => evOps T S ops.toList ops.toList s h (K .normal)
    | true => drawOk T ops.toList (evDraw T S ops.toList (ops.size + 1) [] (forgetAl ops.toList s) h (K .normal))
  | .seq a b, s, h, K => ev T S a s h fun e s' h' => match e with
    | .normal => ev T S b s' h' K
    | e => K e s' h'
  | .cond c a b, s, h, K => match val s c with
    | .lf (.bool t) => match c with
      | .tmp d => brb t fun t => match t with | true => ev T S a ((d, .lf (.bool true)) :: s) h K | false => ev T S b ((d, .lf (.bool false)) :: s) h K
      | _ => brb t fun t => match t with | true => ev T S a s h K | false => ev T S b s h K
    | _ => False
  | .block n c, s, h, K => ev T S c s h fun e s' h' => match e with
    | .exit m => match Nat.beq m n with | true => K .normal s' h' | false => K (.exit m) s' h'
    | e => K e s' h'
  | .loop c, s, h, K => ∃ (I : Nat → Sl → Hp → Prop) (m : Nat) (ρ : List (Nat × Nat)) (s0 : Sl) (h0 : Hp), Le ρ s0 h0 s h ∧ I m s0 h0 ∧ ∀ m s h, I m s h → ev T S c s h fun e s' h' => match e with
    | .normal => ∃ m' ρ s'' h'', m' < m ∧ Le ρ s'' h'' s' h' ∧ I m' s'' h''
    | e => K e s' h'
  | _, _, _, _ => False

def modeKind (m : Mode) (K : Kind → Prop) : Prop := match m with | .rd => K .lent | .keep => K .ro | _ => K .own

/-- A function's start: its parameters' deep data unfolded. -/
def startK : List (Mode × Bool) → List (List D) → Nat → Sl → Hp → (Sl → Hp → Prop) → Prop
  | [], [], _, s, h, K => K s h
  | (m, g) :: ps, d :: ds, n, s, h, K => modeKind m fun k => unfs k d (16 * n) h fun cs t' h' => one g cs fun v =>
      match Nat.ble t' (16 * n + 16) with
      | true => match m with
        | .mut => startK ps ds (n + 1) ((1000000 + n, v) :: (n, v) :: s) h' K
        | _ => startK ps ds (n + 1) ((n, v) :: s) h' K
      | false => False
  | _, _, _, _, _, _ => False

def resVals (T : Tab) (s : Sl) (h : Hp) : List ResultVar → List Bool → (List (List V) → Prop) → Prop
  | [], [], K => K []
  | .tmp t :: rs, g :: gs, K => match g, val s (.tmp t) with
    | true, .agg cs => resVals T s h rs gs fun vs => K (cs :: vs)
    | false, .agg _ => False
    | false, .dead => False
    | false, .tup _ => False
    | false, v => resVals T s h rs gs fun vs => K ([v] :: vs)
    | _, _ => False
  | .cell a t :: rs, g :: gs, K => ty T t fun i => match beqB i.agg g, val s (.tmp a) with
    | true, .pt u j f => match lookO h u with
      | some (.arr _ _ els) => ex (nth els j) fun cs => subK f i.size cs fun vs => resVals T s h rs gs fun r => K (vs :: r)
      | _ => False
    | _, _ => False
  | _, _, _ => False

/-- The results are handed over. -/
def mvRes (own : Bool) : List (List V) → Hp → (List (List D) → Hp → Prop) → Prop
  | [], h, K => K [] h
  | vs :: r, h, K => mvDs fuel own h vs fun ds h' => mvRes own r h' fun dss h'' => K (ds :: dss) h''

/-- What is left in the cells of a struct that the caller gave to change. -/
def mvEach : List V → Hp → (List (List D) → Hp → Prop) → Prop
  | [], h, K => K [] h
  | v :: l, h, K => mvD fuel true h v fun d h' => mvEach l h' fun os h'' => K ([d] :: os) h''

/-- What is left in the parameters that the caller gave to change. -/
def endOuts (s : Sl) : List (Mode × Bool) → Nat → Hp → (List (List D) → Prop) → Prop
  | [], _, _, K => K []
  | (.mut, false) :: ps, n, h, K => mvD fuel true h (look s (1000000 + n)) fun d h' => endOuts s ps (n + 1) h' fun os => K ([d] :: os)
  | (.mut, true) :: ps, n, h, K => match look s (1000000 + n) with
    | .agg cs => mvEach cs h fun os h' => endOuts s ps (n + 1) h' fun os' => K (appV os os')
    | _ => False
  | _ :: ps, n, h, K => endOuts s ps (n + 1) h K

structure Done (p : Prop) : Prop where
  out : p

/-- The body comes to what the contract says. -/
def evFn (T : Tab) (S : Cons) (c : Con) (fn : Func) (code : Code) (x : c.X) : Prop :=
  startK c.params (c.ins x) 0 [] [] fun s h => ev T S code s h fun e s' h' =>
    let fin : Prop := resVals T s' h' fn.results.toList c.res fun vs => mvRes c.resOwn vs h' fun res h'' => endOuts s' c.params 0 h'' fun outs => Done (c.post x outs res)
    match e with
    | .normal => fin
    | .ret => fin
    | _ => False
end Go.Vm
