/- A verified evaluator for Go code: the same evaluator, unfolded as the kernel does it. -/
import Derived.Test.YtedffkngbjlgdaaGreatDoorVm8a
import Derived.KernelRfl
namespace Go.Vm
set_option linter.unusedVariables false
set_option linter.unusedSimpArgs false
open Go.RowKit
variable {P : Program} {T : Tab} {S : Cons}

def evOpsX (T : Tab) (S : Cons) (ops : List Oper) (l : List Oper) (s : Sl) (h : Hp) (K : Sl → Hp → Prop) : Prop :=
  List.brecOn (motive := fun _ => Sl → Hp → (Sl → Hp → Prop) → Prop) l (evOps._f T S ops) s h K
def rcsX (T : Tab) (S : Cons) (ops : List Oper) (s : Sl) (h : Hp) (l : List Nat) (K : Prop) : Prop :=
  List.brecOn (motive := fun _ => Prop → Prop) l (rcs._f T S ops s h) K
def forKX (l : List (Nat × Oper)) (f : Nat → Oper → Prop) : Prop := List.brecOn (motive := fun _ => (Nat → Oper → Prop) → Prop) l forK._f f
def ifNilX (A : List Nat) (L : List Nat) (T : Tab) (S : Cons) (ops : List Oper) (s : Sl) (h : Hp) (K : Prop) : Prop :=
  match A with
  | [] => K
  | _ => rcsX T S ops s h L K
/-- As evDraw. -/
def evDrawZ (T : Tab) (S : Cons) (ops : List Oper) : Nat → List Nat → Sl → Hp → (Sl → Hp → Prop) → Prop
  | 0, _, _, _, _ => False
  | n + 1, X, s, h, K => match deadAt ops s (alOut X 0 ops) with
    | false => False
    | true => match nextOf (isDet T) X 0 ops with
      | some (i, o) => gdK ops o.guard s fun b s' => match b with
        | true => rdOp T S o.op o.dst (val s') (lookO h) fun v new => putN o.dst v new s' h fun s1 h1 => evDrawZ T S ops n (i :: X) s1 h1 K
        | false => putK o.dst (.tup []) s' fun s1 => evDrawZ T S ops n (i :: X) s1 h K
      | none => match dynB T X ops with
        | false => False
        | true => ifNilX (alOut X 0 ops) (pendL T ops (revN X []) X) T S ops s h (match allOf (isHv T) X 0 ops with
          | [] => match nextOf isAl X 0 ops with
            | some (i, o) => rdOp T S o.op o.dst (val s) (lookO h) fun v new => putN o.dst v new s h fun s1 h1 => evDrawZ T S ops n (i :: X) s1 h1 K
            | none => match covers X 0 ops with
              | true => K s h
              | false => False
          | p :: l => forKX (p :: l) fun i o => evG T S ops o s h fun s' h' =>
              rcsX T S ops s' h' (pendL T ops (revN (i :: X) []) X) (evDrawZ T S ops n (i :: X) s' h' K))
theorem evDrawZ_eq : @evDrawZ = @evDraw := by kernel_rfl
def evDrawX (T : Tab) (S : Cons) (ops : List Oper) (n : Nat) (X : List Nat) (s : Sl) (h : Hp) (K : Sl → Hp → Prop) : Prop :=
  Nat.brecOn (motive := fun _ => List Nat → Sl → Hp → (Sl → Hp → Prop) → Prop) n (evDrawZ._f T S ops) X s h K
/-- As ev. -/
def evY (T : Tab) (S : Cons) : Code → Sl → Hp → (E → Sl → Hp → Prop) → Prop
  | .skip, s, h, K => K .normal s h
  | .ret, s, h, K => K .ret s h
  | .exit n, s, h, K => K (.exit n) s h
  | .region id ops draw, s, h, K => gst S id s h fun s h => match draw with
    | false => evOpsX T S ops.toList ops.toList s h (K .normal)
    | true => drawOk T ops.toList (evDrawX T S ops.toList (ops.size + 1) [] (forgetAl ops.toList s) h (K .normal))
  | .seq a b, s, h, K => evY T S a s h fun e s' h' => match e with
    | .normal => evY T S b s' h' K
    | e => K e s' h'
  | .cond c a b, s, h, K => match val s c with
    | .lf (.bool t) => match c with
      | .tmp d => brb t fun t => match t with | true => evY T S a ((d, .lf (.bool true)) :: s) h K | false => evY T S b ((d, .lf (.bool false)) :: s) h K
      | _ => brb t fun t => match t with | true => evY T S a s h K | false => evY T S b s h K
    | _ => False
  | .block n c, s, h, K => evY T S c s h fun e s' h' => match e with
    | .exit m => match Nat.beq m n with | true => K .normal s' h' | false => K (.exit m) s' h'
    | e => K e s' h'
  | .loop c, s, h, K => ∃ (I : Nat → Sl → Hp → Prop) (m : Nat) (ρ : List (Nat × Nat)) (s0 : Sl) (h0 : Hp), Le ρ s0 h0 s h ∧ I m s0 h0 ∧ ∀ m s h, I m s h → evY T S c s h fun e s' h' => match e with
    | .normal => ∃ m' ρ s'' h'', m' < m ∧ Le ρ s'' h'' s' h' ∧ I m' s'' h''
    | e => K e s' h'
  | _, _, _, _ => False
theorem evY_eq : @evY = @ev := by kernel_rfl
def evX (T : Tab) (S : Cons) (c : Code) (s : Sl) (h : Hp) (K : E → Sl → Hp → Prop) : Prop :=
  Code.brecOn (motive := fun _ => Sl → Hp → (E → Sl → Hp → Prop) → Prop) c (evY._f T S) s h K
theorem evX_eq : @evX = @evY := by kernel_rfl
/-- The body comes to what the contract says. -/
def evFnX (T : Tab) (S : Cons) (c : Con) (fn : Func) (code : Code) (x : c.X) : Prop :=
  startK c.params (c.ins x) 0 [] [] fun s h => evX T S code s h fun e s' h' =>
    let fin : Prop := resVals T s' h' fn.results.toList c.res fun vs => mvRes c.resOwn vs h' fun res h'' => endOuts s' c.params 0 h'' fun outs => Done (c.post x outs res)
    match e with
    | .normal => fin
    | .ret => fin
    | _ => False
theorem evFnX_eq : @evFnX = @evFn := by kernel_rfl
theorem fnX_at (hT : TOk P T) (hS : SOk P S) (hm : P.follows .mixedOrders = true) {f : FuncId} {fn : Func} {code : Code} {c : Con} {x : c.X}
    (hf : IsFn P f fn code c.params.length) (h : evFnX T S c fn code x) : FnOkAt P f c x := fn_at hT hS hm hf (by rw [evFnX_eq] at h; exact h)
theorem rc_i {ops : List Oper} {s : Sl} {h : Hp} {p : Nat} {K : Prop} (h1 : rc T S ops s h p) (h2 : K) : rc T S ops s h p ∧ K := ⟨h1, h2⟩
end Go.Vm
