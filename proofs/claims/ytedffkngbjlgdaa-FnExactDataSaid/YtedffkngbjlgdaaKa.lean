/- Contracts: words. -/
import Derived.Test.YtedffkngbjlgdaaVmT
namespace Go.Vm
open Go.Proofs

def body (f : Func) : Code := match f.body with | some c => c | none => .skip
/-- A function whose results are told by its parameters and that changes nothing. -/
def pureC (X : Type) (params : List (Mode × Bool)) (res : List Bool) (ins : X → List (List D)) (f : X → List (List D)) : Con :=
  { X := X, params := params, res := res, resOwn := true, ins := ins, post := fun x outs r => outs = [] ∧ r = f x }
/-- One of whose results something is known. -/
def relC (X : Type) (params : List (Mode × Bool)) (res : List Bool) (ins : X → List (List D)) (R : X → List (List D) → Prop) : Con :=
  { X := X, params := params, res := res, resOwn := true, ins := ins, post := fun x outs r => outs = [] ∧ R x r }

theorem SOk.nil {P : Program} : SOk P [] := fun p hp => by simp at hp
theorem SOk.cons {P : Program} {f : Nat} {c : Con} {S : Cons} (h : FnOk P f c) (hs : SOk P S) : SOk P ((f, c) :: S) := fun p hp => by
  rcases List.mem_cons.1 hp with rfl | hp
  · exact h
  · exact hs p hp

/-- A mark: at this region moves are told that the program does not see. -/
def cGh : Con := { X := Empty, params := [], res := [], resOwn := true, ins := fun _ => [], post := fun _ _ _ => True }
theorem gh_ok {P : Program} {n : Nat} : FnOk P n cGh := fun x => nomatch x
theorem nthI {β : Type} {l : List β} {j : Nat} {y : β} (h : l[j]? = some y) : nth l ((j : Nat) : Int).toNat = some y := by rw [nth_eq, Int.toNat_natCast]; exact h
theorem getL {β : Type} {l : List β} {j : Nat} (h : j < l.length) : ∃ y, l[j]? = some y := ⟨_, List.getElem?_eq_getElem h⟩

theorem ltI {β : Type} {l : List β} {j : Nat} {y : β} (h : l[j]? = some y) : ((j : Nat) : Int) < ((l.length : Nat) : Int) := Int.ofNat_lt.2 (List.getElem?_eq_some_iff.1 h).1

theorem ixE {β : Type} {l : List β} {e : Int} {j : Nat} {y : β} (he : e = ((j : Nat) : Int)) (h : l[j]? = some y) : 0 ≤ e ∧ e < ((l.length : Nat) : Int) := by
  subst he; exact ⟨Int.natCast_nonneg _, ltI h⟩
theorem nthE {β : Type} {l : List β} {e : Int} {j : Nat} {y : β} (he : e = ((j : Nat) : Int)) (h : l[j]? = some y) : nth l e.toNat = some y := by
  subst he; exact nthI h

/-- Equality as a bool. -/
noncomputable def eqX {α : Type} (a b : α) : Bool := haveI := Classical.propDecidable (a = b); decide (a = b)
theorem eqX_iff {α : Type} {a b : α} : eqX a b = true ↔ a = b := by unfold eqX; simp
theorem eqX_no {α : Type} {a b : α} : eqX a b = false ↔ a ≠ b := by unfold eqX; simp
theorem eqX_refl {α : Type} (a : α) : eqX a a = true := eqX_iff.2 rfl
theorem b_iff {a b : Bool} : a = b ↔ (a = true ↔ b = true) := by cases a <;> cases b <;> simp

theorem w64 {n : Int} (h1 : -9223372036854775808 ≤ n) (h2 : n ≤ 9223372036854775807) : IntKind.i64.wrap n = n := by
  simp [IntKind.wrap, IntKind.bits, IntKind.signed]; omega
/-- One more. -/
theorem incI {i n : Nat} (h : i < n) (hn : n ≤ 9223372036854775807) : V.lf (.int .i64 (IntKind.i64.wrap ((i : Int) + 1))) = V.lf (.int .i64 ((i + 1 : Nat) : Int)) := by rw [w64 (by omega) (by omega)]; rfl
/-- The byte of a number. -/
def b8 (n : Int) : UInt8 := UInt8.ofNat (n % 256).toNat
theorem w8 (n : Int) : IntKind.u8.wrap n = ((b8 n).toNat : Int) := by
  simp [IntKind.wrap, IntKind.bits, IntKind.signed, b8]
  omega
theorem encB_len (a : UInt8) : (encB a).length = 1 := rfl
theorem u8_of {n : Int} {k : Nat} (h : n = k) (hk : k < 256) : IntKind.u8.wrap n = ((UInt8.ofNat k).toNat : Int) := by
  subst h
  rw [w8]
  congr 2
  unfold b8
  congr 1
  omega
theorem tmodN (n : Nat) (k : Nat) : (n : Int).tmod k = ((n % k : Nat) : Int) := by rw [Int.tmod_eq_emod_of_nonneg (by omega)]; rfl
theorem tdivN (n : Nat) (k : Nat) : (n : Int).tdiv k = ((n / k : Nat) : Int) := by rw [Int.tdiv_eq_ediv_of_nonneg (by omega)]; rfl

theorem tmod10 (n : Nat) : (n : Int).tmod 10 = ((n % 10 : Nat) : Int) := tmodN n 10
theorem tdiv10 (n : Nat) : (n : Int).tdiv 10 = ((n / 10 : Nat) : Int) := tdivN n 10

/-- A number in base 128. -/
def varB (n : Nat) : List UInt8 := if n < 128 then [UInt8.ofNat n] else UInt8.ofNat (n % 128 + 128) :: varB (n / 128)
theorem varB_lt {n : Nat} (h : n < 128) : varB n = [UInt8.ofNat n] := by rw [varB, if_pos h]
theorem varB_ge {n : Nat} (h : ¬ n < 128) : varB n = UInt8.ofNat (n % 128 + 128) :: varB (n / 128) := by rw [varB, if_neg h]
end Go.Vm
namespace Go.Vm
open Go.Proofs
set_option maxRecDepth 100000
set_option linter.unusedVariables false
set_option linter.unusedSimpArgs false

theorem varB_le {k n : Nat} (h : n < 128 ^ k) (hk : 0 < k) : (varB n).length ≤ k := by
  have key : ∀ k n, n < 128 ^ k → 0 < k → (varB n).length ≤ k := by
    intro k
    induction k with
    | zero => intro n h h0; omega
    | succ k ih =>
      intro n h _
      by_cases hn : n < 128
      · rw [varB_lt hn]; simp
      · rw [varB_ge hn]
        rw [Nat.pow_succ] at h
        have : n / 128 < 128 ^ k := Nat.div_lt_of_lt_mul (by omega)
        have hk : 0 < k := by
          rcases Nat.eq_zero_or_pos k with rfl | h1
          · simp at h; omega
          · exact h1
        have := ih _ this hk
        simp; omega
  exact key k n h hk
theorem varB_len6 {n : Nat} (h : n ≤ 1099511627775) : (varB n).length ≤ 6 := varB_le (by omega) (by omega)
theorem varB_pos (n : Nat) : 1 ≤ (varB n).length := by
  by_cases h : n < 128
  · rw [varB_lt h]; simp
  · rw [varB_ge h]; simp
/-- The bytes of a text; a text behind its length. -/
def bs (s : ByteArray) : List UInt8 := s.data.toList
theorem bs_len (s : ByteArray) : (bs s).length = s.size := by simp [bs]
def ofB (l : List UInt8) : ByteArray := ⟨l.toArray⟩
end Go.Vm
namespace Go.Vm
open Go.Proofs
set_option maxRecDepth 100000
set_option linter.unusedVariables false
set_option linter.unusedSimpArgs false

/-! Numbers read -/
/-- What is read: a number and the place behind it; the number that stands there. -/
def GotN (l : List UInt8) (a n nx : Int) : Prop :=
  (nx = -1 ∧ n = 0 ∨ 0 ≤ n ∧ n ≤ 1099511627775 ∧ 0 ≤ a ∧ a < nx ∧ nx ≤ l.length) ∧
    ∀ (pre : List UInt8) (v : Nat) (post : List UInt8), l = pre ++ varB v ++ post → a = pre.length → v ≤ 1099511627775 → n = v ∧ nx = pre.length + (varB v).length
/-- The digits so far: k of them, in sum n; what is left of the number that stands there. -/
structure Dig (l : List UInt8) (a : Nat) (k n : Nat) : Prop where
  lt : n < 128 ^ k
  rest : ∀ (pre : List UInt8) (v : Nat) (post : List UInt8), l = pre ++ varB v ++ post → a = pre.length → v ≤ 1099511627775 →
    ∃ v', l.drop (a + k) = varB v' ++ post ∧ v = n + 128 ^ k * v' ∧ (varB v).length = k + (varB v').length ∧ (1 ≤ k → 1 ≤ v')

theorem Dig.zero (l : List UInt8) (a : Nat) : Dig l a 0 0 := ⟨by simp, fun pre v post h1 h2 _ => ⟨v, by rw [h1, h2]; simp, by simp, by simp, by omega⟩⟩

theorem toNat_of {k : Nat} (h : k < 256) : (UInt8.ofNat k).toNat = k := by simp [UInt8.toNat_ofNat]; omega
theorem head_eq {x d : UInt8} {r : List UInt8} (h : (x :: r)[0]? = some d) : x = d := by simpa only [List.getElem?_cons_zero, Option.some.injEq] using h
theorem Dig.step {l : List UInt8} {a k n : Nat} (h : Dig l a k n) {d : UInt8} (hd : l[a + k]? = some d) (hge : 128 ≤ d.toNat) : Dig l a (k + 1) (n + d.toNat % 128 * 128 ^ k) := by
  refine ⟨?_, fun pre v post h1 h2 h3 => ?_⟩
  · have h4 := h.lt
    have h5 : d.toNat % 128 ≤ 127 := by omega
    have h6 : d.toNat % 128 * 128 ^ k ≤ 127 * 128 ^ k := Nat.mul_le_mul_right _ h5
    rw [Nat.pow_succ]; omega
  · obtain ⟨v', e1, e2, e3, e4⟩ := h.rest pre v post h1 h2 h3
    by_cases hv : v' < 128
    · exfalso
      rw [varB_lt hv] at e1
      have : (l.drop (a + k))[0]? = some d := by simpa using hd
      rw [e1] at this
      have := head_eq this
      subst this
      rw [toNat_of (by omega)] at hge
      omega
    · rw [varB_ge hv] at e1 e3
      have : (l.drop (a + k))[0]? = some d := by simpa using hd
      rw [e1] at this
      have := head_eq this
      subst this
      refine ⟨v' / 128, ?_, ?_, ?_, fun _ => by omega⟩
      · have := congrArg (List.drop 1) e1
        rw [List.drop_drop] at this
        simpa [Nat.add_assoc] using this
      · rw [toNat_of (by omega), e2, Nat.pow_succ]
        have h6 : (v' % 128 + 128) % 128 = v' % 128 := by omega
        rw [h6]
        have h7 : v' = v' % 128 + 128 * (v' / 128) := by omega
        calc n + 128 ^ k * v' = n + 128 ^ k * (v' % 128 + 128 * (v' / 128)) := by rw [← h7]
          _ = n + v' % 128 * 128 ^ k + 128 ^ k * 128 * (v' / 128) := by rw [Nat.mul_add, Nat.mul_comm (128 ^ k) (v' % 128), Nat.mul_assoc, Nat.add_assoc]
      · simp only [List.length_cons] at e3; omega
theorem Dig.out {l : List UInt8} {a k n : Nat} (h : Dig l a k n) (hk : l.length ≤ a + k ∨ 6 ≤ k) (h0 : a + k ≤ l.length) : GotN l a 0 (-1) := by
  refine ⟨.inl ⟨rfl, rfl⟩, fun pre v post h1 h2 h3 => ?_⟩
  exfalso
  have h2' : a = pre.length := by omega
  obtain ⟨v', e1, e2, e3, e4⟩ := h.rest pre v post h1 h2' h3
  have h5 := varB_pos v'
  have h6 := varB_len6 h3
  have h7 := congrArg List.length e1
  simp only [List.length_append, List.length_drop] at h7
  omega

end Go.Vm
namespace Go.Vm
open Go.Proofs
set_option maxRecDepth 100000
set_option linter.unusedVariables false
set_option linter.unusedSimpArgs false

end Go.Vm
namespace Go.Vm
open Go.Proofs
set_option maxRecDepth 100000
set_option linter.unusedVariables false
set_option linter.unusedSimpArgs false


end Go.Vm
namespace Go.Vm
open Go.Proofs
set_option maxRecDepth 100000
set_option linter.unusedVariables false
set_option linter.unusedSimpArgs false

/-! The order of texts -/
theorem bl_flip : ∀ a b : List UInt8, Op.bytesLess b a = !(Op.bytesLess a b || a == b)
  | [], [] => rfl
  | [], _ :: _ => by simp [Op.bytesLess]
  | _ :: _, [] => by simp [Op.bytesLess]
  | a :: x, b :: y => by
    have ih := bl_flip x y
    simp only [Op.bytesLess]
    rcases Nat.lt_trichotomy a.toNat b.toNat with h | h | h
    · have h1 : a < b := UInt8.lt_iff_toNat_lt.mpr h
      have h2 : ¬ b < a := fun e => by have := UInt8.lt_iff_toNat_lt.mp e; omega
      have h3 : a ≠ b := fun e => by subst e; omega
      simp [h1, h2, h3, Ne.symm h3]
    · have h1 : a = b := UInt8.toNat_inj.mp h
      subst h1
      have h2 : ¬ a < a := fun e => by have := UInt8.lt_iff_toNat_lt.mp e; omega
      simp only [h2, decide_false, Bool.false_or, beq_self_eq_true, Bool.true_and, ih, List.cons_beq_cons]
    · have h1 : b < a := UInt8.lt_iff_toNat_lt.mpr h
      have h2 : ¬ a < b := fun e => by have := UInt8.lt_iff_toNat_lt.mp e; omega
      have h3 : a ≠ b := fun e => by subst e; omega
      simp [h1, h2, h3]
theorem toList_inj {a b : ByteArray} (h : a.toList = b.toList) : a = b := by
  rw [ByteArray.toList_eq, ByteArray.toList_eq] at h
  obtain ⟨⟨x⟩⟩ := a
  obtain ⟨⟨y⟩⟩ := b
  simpa using h
theorem strEq_iff {a b : ByteArray} : strEq a b = true ↔ a = b := by
  unfold strEq
  rw [beq_iff_eq]
  exact ⟨toList_inj, fun h => by rw [h]⟩
theorem strEq_no {a b : ByteArray} : strEq a b = false ↔ a ≠ b := by
  rw [Ne, ← strEq_iff]; cases strEq a b <;> simp
theorem strEq_refl (a : ByteArray) : strEq a a = true := strEq_iff.2 rfl
theorem strLt_flip (a b : ByteArray) : strLt b a = !(strLt a b || strEq a b) := bl_flip _ _
def emp (s : ByteArray) : Bool := strEq s ⟨#[]⟩
def userOkB (s : ByteArray) : Bool := decide (1 ≤ s.size) && decide (s.size ≤ 8)
def uvalOkB (s : ByteArray) : Bool := decide (s.size ≤ 20)
def keyOkB (s : ByteArray) : Bool := decide (1 ≤ s.size) && decide (s.size ≤ 16)
/-- A test of one text; of two in a struct. -/
def cS1 (f : ByteArray → Bool) : Con := pureC ByteArray [(.rd, false)] [false] (fun k => [[.lf (.string k)]]) (fun k => [[.lf (.bool (f k))]])
def cUserOk : Con := cS1 userOkB
def cUvalOk : Con := cS1 uvalOkB
def cKeyOk : Con := cS1 keyOkB
structure WithinX where
  a : Int
  b : Int
  c : Int
def cWithin : Con := pureC WithinX [(.rd, false), (.rd, false), (.rd, false)] [false] (fun x => [[.lf (.int .i64 x.a)], [.lf (.int .i64 x.b)], [.lf (.int .i64 x.c)]]) (fun x => [[.lf (.bool (decide (x.b ≤ x.a) && decide (x.a ≤ x.c)))]])

theorem ev_sUserOk : ∀ x, evFn tab [] cUserOk Try.f44 (body Try.f44) x := by
  intro k
  repeat' ((conv => whnf); refine br2 (fun h => ?_) (fun h => ?_))
  all_goals (conv => whnf)
  all_goals refine ⟨⟨rfl, ?_⟩⟩
  · show _ = [[D.lf (.bool (userOkB k))]]
    have h1 := of_decide_eq_true h
    unfold userOkB
    rw [show decide (1 ≤ k.size) = true from decide_eq_true (by omega), Bool.true_and]
    congr 4
    exact decide_eq_decide.2 (by omega)
  · show _ = [[D.lf (.bool (userOkB k))]]
    have h1 := of_decide_eq_false h
    unfold userOkB
    rw [show decide (1 ≤ k.size) = false from decide_eq_false (by omega), Bool.false_and]
theorem sUserOk_ok : FnOk Try.prog 44 cUserOk := fnOk_of fun x => fn_at tab_ok (SOk.nil) mixed (fn := Try.f44) (code := body Try.f44) ⟨Try.func44, rfl, by kernel_rfl, by kernel_rfl, by kernel_rfl, by kernel_rfl⟩ (ev_sUserOk x)
theorem ev_sUvalOk : ∀ x, evFn tab [] cUvalOk Try.f45 (body Try.f45) x := by
  intro k
  conv => whnf
  refine ⟨⟨rfl, ?_⟩⟩
  show _ = [[D.lf (.bool (uvalOkB k))]]
  unfold uvalOkB
  congr 4
  exact decide_eq_decide.2 (by omega)
theorem sUvalOk_ok : FnOk Try.prog 45 cUvalOk := fnOk_of fun x => fn_at tab_ok (SOk.nil) mixed (fn := Try.f45) (code := body Try.f45) ⟨Try.func45, rfl, by kernel_rfl, by kernel_rfl, by kernel_rfl, by kernel_rfl⟩ (ev_sUvalOk x)
theorem ev_iUvalOk : ∀ x, evFn tab [] cUvalOk Try.f102 (body Try.f102) x := by
  intro k
  conv => whnf
  refine ⟨⟨rfl, ?_⟩⟩
  show _ = [[D.lf (.bool (uvalOkB k))]]
  unfold uvalOkB
  congr 4
  exact decide_eq_decide.2 (by omega)
theorem iUvalOk_ok : FnOk Try.prog 102 cUvalOk := fnOk_of fun x => fn_at tab_ok (SOk.nil) mixed (fn := Try.f102) (code := body Try.f102) ⟨Try.func102, rfl, by kernel_rfl, by kernel_rfl, by kernel_rfl, by kernel_rfl⟩ (ev_iUvalOk x)
theorem ev_within : ∀ x, evFn tab [] cWithin Try.f70 (body Try.f70) x := by
  rintro ⟨a, b, c⟩
  repeat' ((conv => whnf); refine br2 (fun h => ?_) (fun h => ?_))
  all_goals (conv => whnf)
  all_goals refine ⟨⟨rfl, ?_⟩⟩
  · show _ = [[D.lf (.bool (decide (b ≤ a) && decide (a ≤ c)))]]
    rw [show decide (b ≤ a) = true from h, Bool.true_and]
  · show _ = [[D.lf (.bool (decide (b ≤ a) && decide (a ≤ c)))]]
    rw [show decide (b ≤ a) = false from h, Bool.false_and]
theorem within_ok : FnOk Try.prog 70 cWithin := fnOk_of fun x => fn_at tab_ok (SOk.nil) mixed (fn := Try.f70) (code := body Try.f70) ⟨Try.func70, rfl, by kernel_rfl, by kernel_rfl, by kernel_rfl, by kernel_rfl⟩ (ev_within x)
theorem ev_iUserOk : ∀ x, evFn tab [(70, cWithin)] cUserOk Try.f101 (body Try.f101) x := by
  intro k
  conv => whnf
  refine ⟨⟨k.size, 1, 8⟩, rfl, ?_⟩
  rintro _ _ ⟨rfl, rfl⟩
  conv => whnf
  refine ⟨⟨rfl, ?_⟩⟩
  show [[D.lf (.bool (decide ((1 : Int) ≤ k.size) && decide ((k.size : Int) ≤ 8)))]] = [[D.lf (.bool (userOkB k))]]
  unfold userOkB
  rw [show decide ((1 : Int) ≤ k.size) = decide (1 ≤ k.size) from decide_eq_decide.2 (by omega), show decide ((k.size : Int) ≤ 8) = decide (k.size ≤ 8) from decide_eq_decide.2 (by omega)]
theorem iUserOk_ok : FnOk Try.prog 101 cUserOk := fnOk_of fun x => fn_at tab_ok (SOk.cons within_ok SOk.nil) mixed (fn := Try.f101) (code := body Try.f101) ⟨Try.func101, rfl, by kernel_rfl, by kernel_rfl, by kernel_rfl, by kernel_rfl⟩ (ev_iUserOk x)
theorem ev_iKeyOk : ∀ x, evFn tab [(70, cWithin)] cKeyOk Try.f34 (body Try.f34) x := by
  intro k
  conv => whnf
  refine ⟨⟨k.size, 1, 16⟩, rfl, ?_⟩
  rintro _ _ ⟨rfl, rfl⟩
  conv => whnf
  refine ⟨⟨rfl, ?_⟩⟩
  show [[D.lf (.bool (decide ((1 : Int) ≤ k.size) && decide ((k.size : Int) ≤ 16)))]] = [[D.lf (.bool (keyOkB k))]]
  unfold keyOkB
  rw [show decide ((1 : Int) ≤ k.size) = decide (1 ≤ k.size) from decide_eq_decide.2 (by omega), show decide ((k.size : Int) ≤ 16) = decide (k.size ≤ 16) from decide_eq_decide.2 (by omega)]
theorem iKeyOk_ok : FnOk Try.prog 34 cKeyOk := fnOk_of fun x => fn_at tab_ok (SOk.cons within_ok SOk.nil) mixed (fn := Try.f34) (code := body Try.f34) ⟨Try.func34, rfl, by kernel_rfl, by kernel_rfl, by kernel_rfl, by kernel_rfl⟩ (ev_iKeyOk x)
/-! Records -/
structure RecX where
  kind : Int
  key : ByteArray
  val : ByteArray
  lo : ByteArray
  hi : ByteArray
def RecX.ds (r : RecX) : List D := [.lf (.int .i64 r.kind), .lf (.string r.key), .lf (.string r.val), .lf (.string r.lo), .lf (.string r.hi)]
/-! Equal structs -/
end Go.Vm
namespace Go.Vm
open Go.Proofs
set_option maxRecDepth 100000
set_option linter.unusedVariables false
set_option linter.unusedSimpArgs false

structure TxX where
  c : Int
  e : Int
  n : Int
def TxX.ds (x : TxX) : List D := [.lf (.int .i64 x.c), .lf (.int .i64 x.e), .lf (.int .i64 x.n)]
structure RngX where
  lo : ByteArray
  hi : ByteArray
def RngX.ds (x : RngX) : List D := [.lf (.string x.lo), .lf (.string x.hi)]
structure LockX where
  tx : TxX
  rng : RngX
  ex : Bool
def LockX.ds (x : LockX) : List D := [.lf (.int .i64 x.tx.c), .lf (.int .i64 x.tx.e), .lf (.int .i64 x.tx.n), .lf (.string x.rng.lo), .lf (.string x.rng.hi), .lf (.bool x.ex)]
theorem LockX.len (x : LockX) : x.ds.length = 6 := rfl
/-- A copy of a struct; of a slice; whether two are alike; how large one is. -/
def cCopy {X : Type} (ds : X → List D) : Con := pureC X [(.rd, true)] [true] (fun x => [ds x]) (fun x => [ds x])
noncomputable def cEq {X : Type} (ds : X → List D) : Con := pureC (X × X) [(.rd, true), (.rd, true)] [false] (fun x => [ds x.1, ds x.2]) (fun x => [[.lf (.bool (eqX x.1 x.2))]])
structure LstX (X : Type) where
  l : List X
  hl : l.length ≤ 1048576
def cCopyS {X : Type} (sz : Nat) (ds : X → List D) : Con := pureC (LstX X) [(.rd, false)] [false] (fun x => [[.row sz ds x.l]]) (fun x => [[.row sz ds x.l]])
noncomputable def cEqS {X : Type} (sz : Nat) (ds : X → List D) : Con := pureC (List X × List X) [(.rd, false), (.rd, false)] [false] (fun x => [[.row sz ds x.1], [.row sz ds x.2]]) (fun x => [[.lf (.bool (eqX x.1 x.2))]])
structure SzX (X : Type) (B0 : X → Prop) where
  x : X
  left : Int
  h1 : 0 ≤ left
  h2 : left ≤ 1048576
  hb : B0 x
/-- What is left behind a struct or a slice is not more; where it is no less than nothing, the sizes fit. -/
def cSz {X : Type} (ds : X → List D) (B0 B : X → Prop) : Con := relC (SzX X B0) [(.rd, true), (.rd, false)] [false] (fun x => [ds x.x, [.lf (.int .i64 x.left)]]) (fun x r => ∃ k : Int, r = [[.lf (.int .i64 k)]] ∧ -1 ≤ k ∧ k ≤ x.left ∧ (0 ≤ k → B x.x))
def cSzS {X : Type} (sz : Nat) (ds : X → List D) (B0 B : X → Prop) : Con := relC (SzX (List X) fun l => l.length ≤ 9223372036854775807 ∧ ∀ y ∈ l, B0 y) [(.rd, false), (.rd, false)] [false] (fun x => [[.row sz ds x.x], [.lf (.int .i64 x.left)]])
  (fun x r => ∃ k : Int, r = [[.lf (.int .i64 k)]] ∧ -1 ≤ k ∧ k ≤ x.left ∧ (0 ≤ k → x.x.length + k ≤ x.left ∧ ∀ y ∈ x.x, B y))
def maxS : Nat := 9223372036854775807
def rngB0 (x : RngX) : Prop := x.lo.size ≤ maxS ∧ x.hi.size ≤ maxS
def rngB (x : RngX) : Prop := x.lo.size ≤ 1048576 ∧ x.hi.size ≤ 1048576
def lockB0 (x : LockX) : Prop := rngB0 x.rng
theorem ev_szPair : ∀ x, evFn tab [] (cSz RngX.ds rngB0 rngB) Try.f111 (body Try.f111) x := by
  rintro ⟨⟨lo, hi⟩, left, h1, h2, hb1, hb2⟩
  replace hb1 : lo.size ≤ 9223372036854775807 := hb1
  replace hb2 : hi.size ≤ 9223372036854775807 := hb2
  conv => whnf
  have e1 : IntKind.i64.wrap (left - (lo.size : Int)) = left - lo.size := w64 (by omega) (by omega)
  refine br2 (fun h3 => ?_) (fun h3 => ?_)
  · conv => whnf
    exact ⟨⟨rfl, -1, rfl, by omega, (show (-1 : Int) ≤ left by omega), fun h => by omega⟩⟩
  · replace h3 : decide (IntKind.i64.wrap (left - (lo.size : Int)) < 0) = false := h3
    rw [e1] at h3
    have h3' := of_decide_eq_false h3
    conv => whnf
    have e2 : IntKind.i64.wrap (IntKind.i64.wrap (left - (lo.size : Int)) - (hi.size : Int)) = left - lo.size - hi.size := by rw [e1]; exact w64 (by omega) (by omega)
    refine br2 (fun h4 => ?_) (fun h4 => ?_)
    · conv => whnf
      exact ⟨⟨rfl, -1, rfl, by omega, (show (-1 : Int) ≤ left by omega), fun h => by omega⟩⟩
    · replace h4 : decide (IntKind.i64.wrap (IntKind.i64.wrap (left - (lo.size : Int)) - (hi.size : Int)) < 0) = false := h4
      rw [e2] at h4
      have h4' := of_decide_eq_false h4
      conv => whnf
      refine ⟨⟨rfl, _, rfl, ?_, ?_, fun _ => (⟨by omega, by omega⟩ : lo.size ≤ 1048576 ∧ hi.size ≤ 1048576)⟩⟩
      · show -1 ≤ IntKind.i64.wrap (IntKind.i64.wrap (left - (lo.size : Int)) - (hi.size : Int))
        rw [e2]; omega
      · show IntKind.i64.wrap (IntKind.i64.wrap (left - (lo.size : Int)) - (hi.size : Int)) ≤ left
        rw [e2]; omega
theorem szPair_ok : FnOk Try.prog 111 (cSz RngX.ds rngB0 rngB) := fnOk_of fun x => fn_at tab_ok (SOk.nil) mixed (fn := Try.f111) (code := body Try.f111) ⟨Try.func111, rfl, by kernel_rfl, by kernel_rfl, by kernel_rfl, by kernel_rfl⟩ (ev_szPair x)
theorem ev_szPairS : ∀ x, evFn tab [(111, (cSz RngX.ds rngB0 rngB))] (cSzS 2 RngX.ds rngB0 rngB) Try.f85 (body Try.f85) x := by
  rintro ⟨l, left, h1, h2, hb0, hb⟩
  replace hb0 : l.length ≤ 9223372036854775807 := hb0
  conv => whnf
  intro h3
  conv => whnf
  have e1 : IntKind.i64.wrap (left - (l.length : Int)) = left - l.length := w64 (by omega) (by omega)
  refine br2 (fun h4 => ?_) (fun h4 => ?_)
  · conv => whnf
    exact ⟨⟨rfl, -1, rfl, by omega, (show (-1 : Int) ≤ left by omega), fun h => by omega⟩⟩
  replace h4 : decide (IntKind.i64.wrap (left - (l.length : Int)) < 0) = false := h4
  rw [e1] at h4
  have h4' := of_decide_eq_false h4
  conv => whnf
  refine ⟨fun m s h => ∃ (i : Nat) (k : Int), i ≤ l.length ∧ 0 ≤ k ∧ k ≤ left - l.length ∧ (∀ j y, j < i → l[j]? = some y → rngB y) ∧ m = l.length - i ∧ s = [(0, .sl 0 none), (1, .lf (.int .i64 k)), (5, .lf (.int .i64 i))] ∧ h = [(0, some (.row .lent 2 RngX.ds l))],
    l.length, [(0, 0)], [(0, .sl 0 none), (1, .lf (.int .i64 (left - l.length))), (5, .lf (.int .i64 0))], [(0, some (.row .lent 2 RngX.ds l))], ⟨rfl, ⟨rfl, ?_, rfl, trivial⟩, ⟨rfl, trivial⟩⟩, ⟨0, left - l.length, by omega, by omega, by omega, fun j y h => by omega, by omega, rfl, rfl⟩, ?_⟩
  · show V.lf (.int .i64 (IntKind.i64.wrap (left - (l.length : Int)))) = _
    rw [e1]
  rintro m _ _ ⟨i, k, g1, g2, g3, g4, rfl, rfl, rfl⟩
  conv => whnf
  intro _
  conv => whnf
  refine br2 (fun h5 => ?_) (fun h5 => ?_)
  · have hi : i < l.length := by have := of_decide_eq_true h5; omega
    obtain ⟨y, hy⟩ : ∃ y, l[i]? = some y := ⟨_, List.getElem?_eq_getElem hi⟩
    have hy2 : nth l ((i : Nat) : Int).toNat = some y := by rw [nth_eq, Int.toNat_natCast]; exact hy
    conv => whnf
    refine ⟨Int.natCast_nonneg _, (show (i : Int) < (l.length : Int) by omega), ?_⟩
    conv => whnf
    refine ex2 y hy2 ?_
    conv => whnf
    refine ⟨⟨y, k, g2, by omega, hb y (List.mem_of_getElem? hy)⟩, rfl, ?_⟩
    rintro _ _ ⟨rfl, k', rfl, k1, k2, k3⟩
    replace k2 : k' ≤ k := k2
    conv => whnf
    refine br2 (fun h6 => ?_) (fun h6 => ?_)
    · conv => whnf
      exact ⟨⟨rfl, -1, rfl, by omega, (show (-1 : Int) ≤ left by omega), fun h => by omega⟩⟩
    · have h6' := of_decide_eq_false h6
      conv => whnf
      refine ⟨l.length - (i + 1), [(0, 0)], [(0, .sl 0 none), (1, .lf (.int .i64 k')), (5, .lf (.int .i64 ((i + 1 : Nat) : Int)))], [(0, some (.row .lent 2 RngX.ds l))], by omega, ⟨rfl, ⟨rfl, rfl, ?_, trivial⟩, ⟨rfl, trivial⟩⟩, i + 1, k', by omega, by omega, by omega, fun j z hj hz => ?_, rfl, rfl, rfl⟩
      · show V.lf (.int .i64 (IntKind.i64.wrap ((i : Int) + 1))) = _
        rw [w64 (by omega) (by omega)]; rfl
      · rcases Nat.lt_or_ge j i with h7 | h7
        · exact g4 j z h7 hz
        · obtain rfl : j = i := by omega
          rw [hy] at hz; cases hz; exact k3 (by omega)
  · have hi : i = l.length := by have := of_decide_eq_false h5; omega
    conv => whnf
    refine ⟨⟨rfl, k, rfl, by omega, (show k ≤ left by omega), fun _ => (⟨by omega, fun y hy => ?_⟩ : (l.length : Int) + k ≤ left ∧ ∀ y ∈ l, rngB y)⟩⟩
    obtain ⟨j, hj⟩ := List.getElem?_of_mem hy
    exact g4 j y (by rw [hi]; exact (List.getElem?_eq_some_iff.1 hj).1) hj
theorem szPairS_ok : FnOk Try.prog 85 (cSzS 2 RngX.ds rngB0 rngB) := fnOk_of fun x => fn_at tab_ok (SOk.cons szPair_ok SOk.nil) mixed (fn := Try.f85) (code := body Try.f85) ⟨Try.func85, rfl, by kernel_rfl, by kernel_rfl, by kernel_rfl, by kernel_rfl⟩ (ev_szPairS x)

theorem ev_toPair : ∀ x, evFn tab [] (cCopy RngX.ds) Try.f112 (body Try.f112) x := by
  intro x
  conv => whnf
  exact ⟨⟨rfl, rfl⟩⟩
theorem toPair_ok : FnOk Try.prog 112 (cCopy RngX.ds) := fnOk_of fun x => fn_at tab_ok (SOk.nil) mixed (fn := Try.f112) (code := body Try.f112) ⟨Try.func112, rfl, by kernel_rfl, by kernel_rfl, by kernel_rfl, by kernel_rfl⟩ (ev_toPair x)
theorem ev_eqPair : ∀ x, evFn tab [] (cEq RngX.ds) Try.f51 (body Try.f51) x := by
  rintro ⟨⟨a, b⟩, ⟨c, d⟩⟩
  repeat' ((conv => whnf); refine br2 (fun h => ?_) (fun h => ?_))
  all_goals (conv => whnf)
  all_goals refine ⟨⟨rfl, ?_⟩⟩
  all_goals show _ = [[D.lf (.bool (eqX (⟨a, b⟩ : RngX) ⟨c, d⟩))]]
  all_goals congr 4
  all_goals rw [eq_comm]
  all_goals simp_all [eqX_iff, eqX_no, strEq_iff, strEq_no]
theorem eqPair_ok : FnOk Try.prog 51 (cEq RngX.ds) := fnOk_of fun x => fn_at tab_ok (SOk.nil) mixed (fn := Try.f51) (code := body Try.f51) ⟨Try.func51, rfl, by kernel_rfl, by kernel_rfl, by kernel_rfl, by kernel_rfl⟩ (ev_eqPair x)
def rng0 : RngX := ⟨⟨#[]⟩, ⟨#[]⟩⟩
theorem set_at {α : Type} {l : List α} {i j : Nat} {y : α} (hi : i < l.length) : (l.set i y)[j]? = if i = j then some y else l[j]? := by
  rw [List.getElem?_set]
  split
  · rename_i e; subst e; simp [hi]
  · rfl
theorem ev_toPairS : ∀ x, evFn tab [(112, (cCopy RngX.ds))] (cCopyS 2 RngX.ds) Try.f89 (body Try.f89) x := by
  rintro ⟨l, hl⟩
  conv => whnf
  intro h1
  conv => whnf
  refine ⟨Int.natCast_nonneg _, rfl, ?_, ?_⟩
  · show (l.length : Int) ≤ (4294967296 : Nat); omega
  conv => whnf
  refine ⟨RngX, RngX.ds, rng0, fun _ => rfl, rfl, ?_⟩
  conv => whnf
  refine ⟨fun m s h => ∃ (i : Nat) (l' : List RngX), i ≤ l.length ∧ l'.length = l.length ∧ (∀ j, j < i → l'[j]? = l[j]?) ∧ m = l.length - i ∧ s = [(0, .sl 0 none), (3, .sl 112 none), (4, .lf (.int .i64 i))] ∧ h = [(112, some (.row .own 2 RngX.ds l')), (0, some (.row .lent 2 RngX.ds l))],
    l.length, [(112, 112), (0, 0)], [(0, .sl 0 none), (3, .sl 112 none), (4, .lf (.int .i64 0))], [(112, some (.row .own 2 RngX.ds (List.replicate (l.length : Int).toNat rng0))), (0, some (.row .lent 2 RngX.ds l))], ⟨rfl, ⟨rfl, rfl, rfl, trivial⟩, ⟨rfl, rfl, trivial⟩⟩,
    ⟨0, _, by omega, by rw [List.length_replicate, Int.toNat_natCast], fun j h => by omega, by omega, rfl, rfl⟩, ?_⟩
  rintro m _ _ ⟨i, l', g1, g2, g3, rfl, rfl, rfl⟩
  conv => whnf
  intro _
  conv => whnf
  refine br2 (fun h5 => ?_) (fun h5 => ?_)
  · have hi : i < l.length := by have := of_decide_eq_true h5; omega
    obtain ⟨y, hy⟩ : ∃ y, l[i]? = some y := ⟨_, List.getElem?_eq_getElem hi⟩
    have hy2 : nth l ((i : Nat) : Int).toNat = some y := by rw [nth_eq, Int.toNat_natCast]; exact hy
    obtain ⟨z, hz⟩ : ∃ z, l'[i]? = some z := ⟨_, List.getElem?_eq_getElem (by omega)⟩
    have hz2 : nth l' ((i : Nat) : Int).toNat = some z := by rw [nth_eq, Int.toNat_natCast]; exact hz
    conv => whnf
    refine ⟨Int.natCast_nonneg _, (show (i : Int) < (l.length : Int) by omega), ?_⟩
    conv => whnf
    refine ex2 y hy2 ?_
    conv => whnf
    refine ⟨y, rfl, ?_⟩
    rintro _ _ ⟨rfl, rfl⟩
    conv => whnf
    refine ⟨Int.natCast_nonneg _, (show (i : Int) < (l'.length : Int) by omega), ?_⟩
    conv => whnf
    refine ex2 z hz2 ?_
    conv => whnf
    refine ⟨y, rfl, ?_⟩
    conv => whnf
    refine ⟨l.length - (i + 1), [(112, 112), (0, 0)], [(0, .sl 0 none), (3, .sl 112 none), (4, .lf (.int .i64 ((i + 1 : Nat) : Int)))], [(112, some (.row .own 2 RngX.ds (l'.set (i : Int).toNat y))), (0, some (.row .lent 2 RngX.ds l))], by omega, ⟨rfl, ⟨rfl, rfl, ?_, trivial⟩, ⟨rfl, rfl, trivial⟩⟩, i + 1, _, by omega, ?_, fun j hj => ?_, rfl, rfl, rfl⟩
    · show V.lf (.int .i64 (IntKind.i64.wrap ((i : Int) + 1))) = _
      rw [w64 (by omega) (by omega)]; rfl
    · rw [List.length_set]; exact g2
    · rw [Int.toNat_natCast, set_at (by omega)]
      split
      · rename_i e; subst e; exact hy.symm
      · exact g3 j (by omega)
  · have hi : i = l.length := by have := of_decide_eq_false h5; omega
    conv => whnf
    refine ⟨⟨rfl, ?_⟩⟩
    have : l' = l := by
      apply List.ext_getElem?
      intro j
      rcases Nat.lt_or_ge j l.length with h | h
      · exact g3 j (by omega)
      · rw [List.getElem?_eq_none (by omega), List.getElem?_eq_none h]
    show [[D.row _ RngX.ds l']] = [[D.row 2 RngX.ds l]]
    rw [this]
theorem toPairS_ok : FnOk Try.prog 89 (cCopyS 2 RngX.ds) := fnOk_of fun x => fn_at tab_ok (SOk.cons toPair_ok SOk.nil) mixed (fn := Try.f89) (code := body Try.f89) ⟨Try.func89, rfl, by kernel_rfl, by kernel_rfl, by kernel_rfl, by kernel_rfl⟩ (ev_toPairS x)
theorem ev_eqPairS : ∀ x, evFn tab [(51, (cEq RngX.ds))] (cEqS 2 RngX.ds) Try.f17 (body Try.f17) x := by
  rintro ⟨l, m⟩
  conv => whnf
  intro h1
  conv => whnf
  intro h2
  conv => whnf
  refine br2 (fun h3 => ?_) (fun h3 => ?_)
  · conv => whnf
    refine ⟨⟨rfl, ?_⟩⟩
    show _ = [[D.lf (.bool (eqX l m))]]
    have : l ≠ m := by rintro rfl; simp at h3
    rw [eqX_no.2 this]
  have hl : l.length = m.length := by
    replace h3 : ((l.length : Int) != (m.length : Int)) = false := h3
    simp at h3; omega
  conv => whnf
  refine ⟨fun k s h => ∃ i : Nat, i ≤ l.length ∧ (∀ j, j < i → l[j]? = m[j]?) ∧ k = l.length - i ∧ s = [(0, .sl 0 none), (1, .sl 16 none), (5, .lf (.int .i64 i))] ∧ h = [(0, some (.row .lent 2 RngX.ds l)), (16, some (.row .lent 2 RngX.ds m))],
    l.length, [(0, 0), (16, 16)], [(0, .sl 0 none), (1, .sl 16 none), (5, .lf (.int .i64 0))], [(0, some (.row .lent 2 RngX.ds l)), (16, some (.row .lent 2 RngX.ds m))], ⟨rfl, ⟨rfl, rfl, rfl, trivial⟩, ⟨rfl, rfl, trivial⟩⟩, ⟨0, by omega, fun j h => by omega, by omega, rfl, rfl⟩, ?_⟩
  rintro k _ _ ⟨i, g1, g2, rfl, rfl, rfl⟩
  conv => whnf
  intro h4
  conv => whnf
  refine br2 (fun h5 => ?_) (fun h5 => ?_)
  · have hi : i < l.length := by have := of_decide_eq_true h5; omega
    obtain ⟨y, hy⟩ : ∃ y, l[i]? = some y := ⟨_, List.getElem?_eq_getElem hi⟩
    have hy2 : nth l ((i : Nat) : Int).toNat = some y := by rw [nth_eq, Int.toNat_natCast]; exact hy
    obtain ⟨z, hz⟩ : ∃ z, m[i]? = some z := ⟨_, List.getElem?_eq_getElem (by omega)⟩
    have hz2 : nth m ((i : Nat) : Int).toNat = some z := by rw [nth_eq, Int.toNat_natCast]; exact hz
    conv => whnf
    refine ⟨Int.natCast_nonneg _, (show (i : Int) < (l.length : Int) by omega), ?_⟩
    conv => whnf
    refine ex2 y hy2 ?_
    conv => whnf
    refine ⟨Int.natCast_nonneg _, (show (i : Int) < (m.length : Int) by omega), ?_⟩
    conv => whnf
    refine ex2 z hz2 ?_
    conv => whnf
    refine ⟨(y, z), rfl, ?_⟩
    rintro _ _ ⟨rfl, rfl⟩
    conv => whnf
    refine br2 (fun h6 => ?_) (fun h6 => ?_)
    · replace h6 : (!eqX y z) = true := h6
      rw [Bool.not_eq_true', eqX_no] at h6
      conv => whnf
      refine ⟨⟨rfl, ?_⟩⟩
      show _ = [[D.lf (.bool (eqX l m))]]
      have : l ≠ m := by rintro rfl; rw [hy] at hz; cases hz; exact h6 rfl
      rw [eqX_no.2 this]
    · replace h6 : (!eqX y z) = false := h6
      rw [Bool.not_eq_false', eqX_iff] at h6
      conv => whnf
      refine ⟨l.length - (i + 1), [(0, 0), (16, 16)], [(0, .sl 0 none), (1, .sl 16 none), (5, .lf (.int .i64 ((i + 1 : Nat) : Int)))], [(0, some (.row .lent 2 RngX.ds l)), (16, some (.row .lent 2 RngX.ds m))], by omega, ⟨rfl, ⟨rfl, rfl, ?_, trivial⟩, ⟨rfl, rfl, trivial⟩⟩, i + 1, by omega, fun j hj => ?_, rfl, rfl, rfl⟩
      · show V.lf (.int .i64 (IntKind.i64.wrap ((i : Int) + 1))) = _
        replace h4 : l.length ≤ 9223372036854775807 := h4
        rw [w64 (by omega) (by omega)]; rfl
      · rcases Nat.lt_or_ge j i with h7 | h7
        · exact g2 j h7
        · obtain rfl : j = i := by omega
          rw [hy, hz, h6]
  · have hi : i = l.length := by have := of_decide_eq_false h5; omega
    conv => whnf
    refine ⟨⟨rfl, ?_⟩⟩
    show _ = [[D.lf (.bool (eqX l m))]]
    have : l = m := by
      apply List.ext_getElem?
      intro j
      rcases Nat.lt_or_ge j l.length with h | h
      · exact g2 j (by omega)
      · rw [List.getElem?_eq_none h, List.getElem?_eq_none (by omega)]
    rw [eqX_iff.2 this]
theorem eqPairS_ok : FnOk Try.prog 17 (cEqS 2 RngX.ds) := fnOk_of fun x => fn_at tab_ok (SOk.cons eqPair_ok SOk.nil) mixed (fn := Try.f17) (code := body Try.f17) ⟨Try.func17, rfl, by kernel_rfl, by kernel_rfl, by kernel_rfl, by kernel_rfl⟩ (ev_eqPairS x)

/-! Held and waiting locks -/
structure LocksX where
  held : List LockX
  wait : List LockX
def LocksX.ds (x : LocksX) : List D := [.row 6 LockX.ds x.held, .row 6 LockX.ds x.wait]
def locksB0 (x : LocksX) : Prop := (x.held.length ≤ 9223372036854775807 ∧ ∀ y ∈ x.held, lockB0 y) ∧ (x.wait.length ≤ 9223372036854775807 ∧ ∀ y ∈ x.wait, lockB0 y)
end Go.Vm
namespace Go.Vm
set_option linter.unusedVariables false
set_option linter.unusedSimpArgs false

theorem u8_lt2 {a b : UInt8} : a < b ↔ a.toNat < b.toNat := UInt8.lt_iff_toNat_lt
theorem bl_irr : ∀ a : List UInt8, Op.bytesLess a a = false
  | [] => rfl
  | a :: x => by
    simp only [Op.bytesLess]
    have h : ¬ a < a := fun e => by have := u8_lt2.1 e; omega
    simp [h, bl_irr x]
theorem bl_trans : ∀ a b c : List UInt8, Op.bytesLess a b = true → Op.bytesLess b c = true → Op.bytesLess a c = true
  | [], [], c, h, _ => by simp [Op.bytesLess] at h
  | [], _ :: _, [], _, h => by simp [Op.bytesLess] at h
  | [], _ :: _, _ :: _, _, _ => by simp [Op.bytesLess]
  | _ :: _, [], _, h, _ => by simp [Op.bytesLess] at h
  | _ :: _, _ :: _, [], _, h => by simp [Op.bytesLess] at h
  | a :: x, b :: y, c :: z, h, h' => by
    have ih := bl_trans x y z
    simp only [Op.bytesLess, Bool.or_eq_true, Bool.and_eq_true, decide_eq_true_eq, beq_iff_eq] at h h' ⊢
    rcases h with h | ⟨h, g⟩ <;> rcases h' with h' | ⟨h', g'⟩
    · left; rw [u8_lt2] at *; omega
    · subst h'; exact .inl h
    · subst h; exact .inl h'
    · subst h; subst h'; exact .inr ⟨rfl, ih g g'⟩
theorem strLt_trans {a b c : ByteArray} (h : strLt a b = true) (h' : strLt b c = true) : strLt a c = true := bl_trans _ _ _ h h'
theorem strLt_irrefl (a : ByteArray) : strLt a a = false := bl_irr _
theorem strLt_tri {a b : ByteArray} (h : strLt a b = false) (h' : strLt b a = false) : a = b := by
  have := strLt_flip a b
  rw [h', h] at this
  simp at this
  exact strEq_iff.1 this
/-- A node with what is below it; a leaf has no kids. -/
inductive Tw where
  | mk (ps : List RngX) (ks : List Tw)
def Tw.ps : Tw → List RngX
  | .mk ps _ => ps
def Tw.ks : Tw → List Tw
  | .mk _ ks => ks
structure NodeX where
  ps : List RngX
  keys : List ByteArray
  kids : List Int
mutual
def Tw.all : Tw → List RngX
  | .mk ps ks => Tw.alls ks ++ ps
def Tw.alls : List Tw → List RngX
  | [] => []
  | k :: ks => k.all ++ Tw.alls ks
end
mutual
def Tw.size : Tw → Nat
  | .mk _ ks => 1 + Tw.sizes ks
def Tw.sizes : List Tw → Nat
  | [] => 0
  | k :: ks => k.size + Tw.sizes ks
end
mutual
def Tw.deep : Tw → Nat
  | .mk _ ks => 1 + Tw.deeps ks
def Tw.deeps : List Tw → Nat
  | [] => 0
  | k :: ks => max k.deep (Tw.deeps ks)
end
def headKey : List RngX → ByteArray
  | [] => ⟨#[]⟩
  | p :: _ => p.lo
mutual
def Tw.least : Tw → ByteArray
  | .mk ps ks => Tw.leasts ps ks
def Tw.leasts : List RngX → List Tw → ByteArray
  | ps, [] => headKey ps
  | _, k :: _ => k.least
end
def kidsAt : List Tw → Nat → List Int
  | [], _ => []
  | k :: ks, a => (a : Int) :: kidsAt ks (a + k.size)
mutual
def Tw.lay : Tw → Nat → List NodeX
  | .mk ps ks, a => ⟨ps, (ks.drop 1).map Tw.least, kidsAt ks (a + 1)⟩ :: Tw.lays ks (a + 1)
def Tw.lays : List Tw → Nat → List NodeX
  | [], _ => []
  | k :: ks, a => k.lay a ++ Tw.lays ks (a + k.size)
end
theorem Tw.alls_app (a b : List Tw) : Tw.alls (a ++ b) = Tw.alls a ++ Tw.alls b := by
  induction a with
  | nil => rfl
  | cons k a ih => simp [Tw.alls, ih]
theorem Tw.sizes_app (a b : List Tw) : Tw.sizes (a ++ b) = Tw.sizes a + Tw.sizes b := by
  induction a with
  | nil => simp [Tw.sizes]
  | cons k a ih => simp [Tw.sizes, ih]; omega
theorem Tw.lays_app (a b : List Tw) (i : Nat) : Tw.lays (a ++ b) i = Tw.lays a i ++ Tw.lays b (i + Tw.sizes a) := by
  induction a generalizing i with
  | nil => simp [Tw.lays, Tw.sizes]
  | cons k a ih => simp [Tw.lays, Tw.sizes, ih, Nat.add_assoc]
theorem kidsAt_app (a b : List Tw) (i : Nat) : kidsAt (a ++ b) i = kidsAt a i ++ kidsAt b (i + Tw.sizes a) := by
  induction a generalizing i with
  | nil => simp [kidsAt, Tw.sizes]
  | cons k a ih => simp [kidsAt, Tw.sizes, ih, Nat.add_assoc]
theorem Tw.size_pos (x : Tw) : 1 ≤ x.size := by cases x; simp [Tw.size]
theorem Tw.deep_pos (x : Tw) : 1 ≤ x.deep := by cases x; simp [Tw.deep]
mutual
theorem Tw.lay_len : ∀ (x : Tw) (a : Nat), (x.lay a).length = x.size
  | .mk ps ks, a => by simp only [Tw.lay, Tw.size, List.length_cons, Tw.lays_len ks (a + 1)]; omega
theorem Tw.lays_len : ∀ (ks : List Tw) (a : Nat), (Tw.lays ks a).length = Tw.sizes ks
  | [], a => rfl
  | k :: ks, a => by simp only [Tw.lays, Tw.sizes, List.length_append, Tw.lay_len k a, Tw.lays_len ks]
end
theorem kidsAt_len (ks : List Tw) (a : Nat) : (kidsAt ks a).length = ks.length := by
  induction ks generalizing a with
  | nil => rfl
  | cons k ks ih => simp [kidsAt, ih]
theorem kidsAt_get : ∀ (ks : List Tw) (a i : Nat), i < ks.length → (kidsAt ks a)[i]? = some ((a + Tw.sizes (ks.take i) : Nat) : Int)
  | [], a, i, h => by simp at h
  | k :: ks, a, 0, h => by simp [kidsAt, Tw.sizes]
  | k :: ks, a, i + 1, h => by
    simp only [kidsAt, List.getElem?_cons_succ, List.take_succ_cons, Tw.sizes]
    rw [kidsAt_get ks (a + k.size) i (by simpa using h), Nat.add_assoc]

/-! Nodes at a place: with the keys told between, or not -/
mutual
def Fit (kk : Bool) (N : List NodeX) : Nat → Tw → Prop
  | a, .mk ps ks => (∃ n, N[a]? = some n ∧ n.ps = ps ∧ n.kids = kidsAt ks (a + 1) ∧ (kk = true → n.keys = (ks.drop 1).map Tw.least)) ∧ FitK kk N (a + 1) ks
def FitK (kk : Bool) (N : List NodeX) : Nat → List Tw → Prop
  | _, [] => True
  | a, k :: ks => Fit kk N a k ∧ FitK kk N (a + k.size) ks
end
section
variable {kk : Bool} {N : List NodeX}
theorem fitK_app : ∀ {l m : List Tw} {a : Nat}, FitK kk N a (l ++ m) ↔ FitK kk N a l ∧ FitK kk N (a + Tw.sizes l) m
  | [], m, a => by simp [FitK, Tw.sizes]
  | k :: l, m, a => by
    simp only [List.cons_append, FitK, Tw.sizes]
    rw [fitK_app, Nat.add_assoc, and_assoc]
theorem fitK_one {a : Nat} {k : Tw} : FitK kk N a [k] ↔ Fit kk N a k := by simp [FitK]
mutual
theorem Fit.uniq : ∀ (x y : Tw) (a : Nat), Fit kk N a x → Fit kk N a y → x = y
  | .mk ps ks, .mk qs js, a, h, h' => by
    simp only [Fit] at h h'
    obtain ⟨⟨n, e1, e2, e3, _⟩, h2⟩ := h
    obtain ⟨⟨n', e1', e2', e3', _⟩, h2'⟩ := h'
    rw [e1] at e1'; cases e1'
    have hl : ks.length = js.length := by
      have := congrArg List.length (e3.symm.trans e3')
      rwa [kidsAt_len, kidsAt_len] at this
    rw [← e2, ← e2', FitK.uniq ks js (a + 1) hl h2 h2']
theorem FitK.uniq : ∀ (ks js : List Tw) (a : Nat), ks.length = js.length → FitK kk N a ks → FitK kk N a js → ks = js
  | [], [], _, _, _, _ => rfl
  | [], _ :: _, _, h, _, _ => by simp at h
  | _ :: _, [], _, h, _, _ => by simp at h
  | k :: ks, j :: js, a, hl, h, h' => by
    simp only [FitK] at h h'
    have e := Fit.uniq k j a h.1 h'.1
    subst e
    rw [FitK.uniq ks js (a + k.size) (by simpa using hl) h.2 h'.2]
end
theorem FitK.get {ks : List Tw} {a i : Nat} {k : Tw} (h : FitK kk N a ks) (hk : ks[i]? = some k) : Fit kk N (a + Tw.sizes (ks.take i)) k := by
  have hi := (List.getElem?_eq_some_iff.1 hk).1
  have e : ks = ks.take i ++ (k :: ks.drop (i + 1)) := by
    have h1 := List.drop_eq_getElem_cons hi
    have h2 : ks[i] = k := (List.getElem?_eq_some_iff.1 hk).2
    rw [h2] at h1
    rw [← h1, List.take_append_drop]
  rw [e, fitK_app] at h
  have := h.2
  simp only [FitK] at this
  exact this.1
theorem FitK.take {ks : List Tw} {a i : Nat} (h : FitK kk N a ks) : FitK kk N a (ks.take i) := by
  rw [← List.take_append_drop i ks, fitK_app] at h
  exact h.1
/-- What is read so far stands in front of what fits. -/
theorem FitK.front {l ks : List Tw} {a : Nat} (h : FitK kk N a l) (h' : FitK kk N a ks) (hl : l.length ≤ ks.length) : l = ks.take l.length :=
  FitK.uniq l _ a (by simp; omega) h h'.take
mutual
theorem Fit.le : ∀ (x : Tw) (a : Nat), Fit kk N a x → a + x.size ≤ N.length
  | .mk ps ks, a, h => by
    simp only [Fit] at h
    obtain ⟨⟨n, e1, _⟩, h2⟩ := h
    have := FitK.le ks (a + 1) h2 (by have := (List.getElem?_eq_some_iff.1 e1).1; omega)
    simp only [Tw.size]; omega
theorem FitK.le : ∀ (ks : List Tw) (a : Nat), FitK kk N a ks → a ≤ N.length → a + Tw.sizes ks ≤ N.length
  | [], a, _, h => by simpa [Tw.sizes] using h
  | k :: ks, a, h, h0 => by
    simp only [FitK] at h
    have h1 := Fit.le k a h.1
    have := FitK.le ks (a + k.size) h.2 h1
    simp only [Tw.sizes]; omega
end
mutual
theorem Fit.lay : ∀ (x : Tw) (a : Nat), Fit true N a x → (N.drop a).take x.size = x.lay a
  | .mk ps ks, a, h => by
    simp only [Fit] at h
    obtain ⟨⟨n, e1, e2, e3, e4⟩, h2⟩ := h
    have hi := (List.getElem?_eq_some_iff.1 e1).1
    have hn : N[a] = n := (List.getElem?_eq_some_iff.1 e1).2
    rw [List.drop_eq_getElem_cons hi, hn]
    simp only [Tw.size, Tw.lay]
    rw [Nat.add_comm 1, List.take_succ_cons, FitK.lay ks (a + 1) h2]
    congr 1
    cases n
    simp_all
theorem FitK.lay : ∀ (ks : List Tw) (a : Nat), FitK true N a ks → (N.drop a).take (Tw.sizes ks) = Tw.lays ks a
  | [], a, _ => by simp [Tw.sizes, Tw.lays]
  | k :: ks, a, h => by
    simp only [FitK] at h
    simp only [Tw.sizes, Tw.lays]
    rw [List.take_add, Fit.lay k a h.1, List.drop_drop, FitK.lay ks (a + k.size) h.2]
end
mutual
theorem Tw.lay_fit : ∀ (x : Tw) (a : Nat) (A B : List NodeX), A.length = a → Fit kk (A ++ x.lay a ++ B) a x
  | .mk ps ks, a, A, B, h => by
    simp only [Fit, Tw.lay]
    refine ⟨⟨⟨ps, (ks.drop 1).map Tw.least, kidsAt ks (a + 1)⟩, ?_, rfl, rfl, fun _ => rfl⟩, ?_⟩
    · rw [List.append_assoc, List.getElem?_append_right (by omega), h]; simp
    · have := Tw.lays_fit ks (a + 1) (A ++ [⟨ps, (ks.drop 1).map Tw.least, kidsAt ks (a + 1)⟩]) B (by simp [h])
      simpa using this
theorem Tw.lays_fit : ∀ (ks : List Tw) (a : Nat) (A B : List NodeX), A.length = a → FitK kk (A ++ Tw.lays ks a ++ B) a ks
  | [], a, A, B, h => trivial
  | k :: ks, a, A, B, h => by
    simp only [FitK, Tw.lays]
    constructor
    · have := Tw.lay_fit k a A (Tw.lays ks (a + k.size) ++ B) h
      simpa using this
    · have := Tw.lays_fit ks (a + k.size) (A ++ k.lay a) B (by simp [h, Tw.lay_len])
      simpa using this
end
end
theorem fit_all {N : List NodeX} {x : Tw} : Fit true N 0 x ∧ x.size = N.length ↔ N = x.lay 0 := by
  constructor
  · rintro ⟨h, e⟩
    have := h.lay
    rw [e] at this
    simpa using this
  · rintro rfl
    refine ⟨?_, (Tw.lay_len x 0).symm⟩
    have := Tw.lay_fit (kk := true) x 0 [] [] rfl
    simpa using this
mutual
theorem Fit.noK {N : List NodeX} : ∀ (x : Tw) (a : Nat), Fit true N a x → Fit false N a x
  | .mk ps ks, a, h => by
    simp only [Fit] at h ⊢
    obtain ⟨⟨n, e1, e2, e3, e4⟩, h2⟩ := h
    exact ⟨⟨n, e1, e2, e3, fun h => by cases h⟩, FitK.noK ks _ h2⟩
theorem FitK.noK {N : List NodeX} : ∀ (ks : List Tw) (a : Nat), FitK true N a ks → FitK false N a ks
  | [], _, _ => trivial
  | k :: ks, a, h => by
    simp only [FitK] at h ⊢
    exact ⟨Fit.noK k a h.1, FitK.noK ks _ h.2⟩
end

/-! How many a node has: d is how far the leaves are. -/
inductive Shp : Bool → Nat → Tw → Prop
  | leaf {root : Bool} {ps : List RngX} (h1 : (if root then 1 else 2) ≤ ps.length) (h2 : ps.length ≤ 4) : Shp root 1 (.mk ps [])
  | node {root : Bool} {d : Nat} {ks : List Tw} (h1 : 2 ≤ ks.length) (h2 : ks.length ≤ 4) (h3 : ∀ k, k ∈ ks → Shp false d k) : Shp root (d + 1) (.mk [] ks)
theorem Shp.pos {b : Bool} {d : Nat} {x : Tw} (h : Shp b d x) : 1 ≤ d := by cases h <;> omega
theorem Shp.root {b : Bool} {d : Nat} {x : Tw} (h : Shp b d x) : Shp true d x := by
  cases h with
  | leaf h1 h2 => exact .leaf (by cases b <;> simp at h1 ⊢ <;> omega) h2
  | node h1 h2 h3 => exact .node h1 h2 h3
mutual
theorem Shp.deep : ∀ {b : Bool} {d : Nat} (x : Tw), Shp b d x → x.deep = d
  | b, d, .mk ps ks, h => by
    cases h with
    | leaf h1 h2 => simp [Tw.deep, Tw.deeps]
    | node h1 h2 h3 =>
      rename_i d
      have := Shp.deeps ks h3 (by intro e; subst e; simp at h1)
      simp [Tw.deep, this]; omega
theorem Shp.deeps : ∀ {d : Nat} (ks : List Tw), (∀ k, k ∈ ks → Shp false d k) → ks ≠ [] → Tw.deeps ks = d
  | d, [], h, hne => absurd rfl hne
  | d, [k], h, _ => by simp [Tw.deeps, Shp.deep k (h k (by simp))]
  | d, k :: k2 :: ks, h, _ => by
    have h1 := Shp.deep k (h k (by simp))
    have h2 := Shp.deeps (k2 :: ks) (fun q hq => h q (by simp [hq])) (by simp)
    rw [Tw.deeps, h1, h2]; simp
end
/-! How many pairs there are at least, and how many nodes at most. -/
mutual
theorem Shp.many : ∀ {d : Nat} (x : Tw), Shp false d x → 2 ^ d ≤ x.all.length ∧ x.size + 1 ≤ x.all.length ∧ x.all.length ≤ 4 ^ d
  | d, .mk ps ks, h => by
    cases h with
    | leaf h1 h2 => simp at h1; simp [Tw.all, Tw.alls, Tw.size, Tw.sizes]; omega
    | node h1 h2 h3 =>
      rename_i d
      obtain ⟨a, b, c⟩ := Shp.manys ks h3
      simp only [Tw.all, List.append_nil, Tw.size]
      have h4 : 2 * 2 ^ d ≤ ks.length * 2 ^ d := Nat.mul_le_mul_right _ h1
      have h5 : ks.length * 4 ^ d ≤ 4 * 4 ^ d := Nat.mul_le_mul_right _ h2
      rw [Nat.pow_succ, Nat.pow_succ]
      omega
theorem Shp.manys : ∀ {d : Nat} (ks : List Tw), (∀ k, k ∈ ks → Shp false d k) → ks.length * 2 ^ d ≤ (Tw.alls ks).length ∧ Tw.sizes ks + ks.length ≤ (Tw.alls ks).length ∧ (Tw.alls ks).length ≤ ks.length * 4 ^ d
  | d, [], h => by simp [Tw.alls, Tw.sizes]
  | d, k :: ks, h => by
    obtain ⟨a, b, c⟩ := Shp.many k (h k (by simp))
    obtain ⟨a', b', c'⟩ := Shp.manys ks (fun q hq => h q (by simp [hq]))
    simp only [Tw.alls, Tw.sizes, List.length_append, List.length_cons, Nat.succ_mul]
    omega
end
theorem Shp.manyR {b : Bool} {d : Nat} {x : Tw} (h : Shp b d x) : 1 ≤ x.all.length ∧ (2 ≤ d → 2 ^ d ≤ x.all.length) ∧ x.size ≤ x.all.length ∧ x.all.length ≤ 4 ^ d := by
  cases h with
  | leaf h1 h2 =>
    have h3 := h1
    simp [Tw.all, Tw.alls, Tw.size, Tw.sizes]
    split at h3 <;> omega
  | node h1 h2 h3 =>
    have hn : Shp false _ _ := .node h1 h2 h3
    obtain ⟨a, b, c⟩ := hn.many
    exact ⟨by omega, fun _ => a, by omega, c⟩
theorem Shp.deep_le {b : Bool} {d : Nat} {x : Tw} (h : Shp b d x) (hl : x.all.length ≤ 200) : d ≤ 7 := by
  obtain ⟨_, h1, _⟩ := h.manyR
  rcases Nat.lt_or_ge d 8 with h2 | h2
  · omega
  · have h3 := h1 (by omega)
    have : 2 ^ 8 ≤ 2 ^ d := Nat.pow_le_pow_right (by omega) h2
    omega

/-! How many each node has; that all leaves are as far. -/
mutual
def Tw.full : Bool → Tw → Bool
  | root, .mk ps ks => match ks with
    | [] => decide (ps.length ≤ 4) && (decide (2 ≤ ps.length) || root && decide (ps.length = 1))
    | k :: ks => decide (2 ≤ (k :: ks).length) && decide ((k :: ks).length ≤ 4) && decide (ps.length = 0) && (Tw.full false k && Tw.fulls ks)
def Tw.fulls : List Tw → Bool
  | [] => true
  | k :: ks => Tw.full false k && Tw.fulls ks
end
inductive Lev : Nat → Tw → Prop
  | leaf {ps : List RngX} : Lev 1 (.mk ps [])
  | node {d : Nat} {ps : List RngX} {ks : List Tw} (h1 : ks ≠ []) (h3 : ∀ k, k ∈ ks → Lev d k) : Lev (d + 1) (.mk ps ks)
theorem fulls_iff {ks : List Tw} : Tw.fulls ks = true ↔ ∀ k ∈ ks, Tw.full false k = true := by
  induction ks with
  | nil => simp [Tw.fulls]
  | cons k ks ih => simp [Tw.fulls, ih]
theorem full_node {root : Bool} {ps : List RngX} {ks : List Tw} (h : ks ≠ []) : Tw.full root (.mk ps ks) = (decide (2 ≤ ks.length) && decide (ks.length ≤ 4) && decide (ps.length = 0) && Tw.fulls ks) := by
  cases ks with
  | nil => exact absurd rfl h
  | cons k ks => simp [Tw.full, Tw.fulls]
theorem full_leaf {root : Bool} {ps : List RngX} : Tw.full root (.mk ps []) = (decide (ps.length ≤ 4) && (decide (2 ≤ ps.length) || root && decide (ps.length = 1))) := by simp [Tw.full]
theorem Shp.of_full : ∀ {d : Nat} {x : Tw}, Lev d x → ∀ {b : Bool}, Tw.full b x = true → Shp b d x := by
  intro d x h
  induction h with
  | leaf =>
    intro b hf
    simp only [full_leaf, Bool.and_eq_true, decide_eq_true_eq, Bool.or_eq_true] at hf
    exact .leaf (by cases b <;> simp at hf ⊢ <;> omega) hf.1
  | node h1 h3 ih =>
    intro b hf
    rename_i d ps ks
    simp only [full_node h1, Bool.and_eq_true, decide_eq_true_eq, fulls_iff] at hf
    obtain ⟨⟨⟨a, c⟩, e⟩, f⟩ := hf
    obtain rfl : ps = [] := List.eq_nil_of_length_eq_zero e
    exact .node a c fun k hk => ih k hk (f k hk)
theorem Shp.full : ∀ {b : Bool} {d : Nat} {x : Tw}, Shp b d x → Tw.full b x = true ∧ Lev d x := by
  intro b d x h
  induction h with
  | leaf h1 h2 =>
    rename_i b ps
    refine ⟨?_, .leaf⟩
    simp only [full_leaf, Bool.and_eq_true, decide_eq_true_eq, Bool.or_eq_true]
    exact ⟨h2, by cases b <;> simp at h1 ⊢ <;> omega⟩
  | node h1 h2 h3 ih =>
    rename_i b d ks
    have hne : ks ≠ [] := by intro e; subst e; simp at h1
    refine ⟨?_, .node hne fun k hk => (ih k hk).2⟩
    simp only [full_node hne, Bool.and_eq_true, decide_eq_true_eq, fulls_iff]
    exact ⟨⟨⟨h1, h2⟩, rfl⟩, fun k hk => (ih k hk).1⟩
/-! The order of keys; a pair put into pairs, a key taken out of them. -/
def Srt (l : List RngX) : Prop := l.Pairwise fun p q => strLt p.lo q.lo = true
def kvOkB (p : RngX) : Bool := keyOkB p.lo && decide (p.hi.size ≤ 60)
structure PairsOkP (l : List RngX) : Prop where
  len : l.length ≤ 200
  ok : ∀ p ∈ l, kvOkB p = true
  srt : Srt l
theorem lt_le {a b c : ByteArray} (h : strLt a b = true) (h' : strLt c b = false) : strLt a c = true := by
  cases e : strLt b c with
  | true => exact strLt_trans h e
  | false => rw [← strLt_tri e h']; exact h
theorem lt_asym {a b : ByteArray} (h : strLt a b = true) : strLt b a = false := by
  cases e : strLt b a with
  | false => rfl
  | true => have := strLt_trans h e; rw [strLt_irrefl] at this; cases this
theorem lt_ne {a b : ByteArray} (h : strLt a b = true) : a ≠ b := by
  rintro rfl; rw [strLt_irrefl] at h; cases h
def eqK (a b : ByteArray) : Bool := !strLt a b && !strLt b a
theorem eqK_iff {a b : ByteArray} : eqK a b = true ↔ a = b := by
  unfold eqK
  constructor
  · intro h
    simp only [Bool.and_eq_true, Bool.not_eq_true'] at h
    exact strLt_tri h.1 h.2
  · rintro rfl; simp [strLt_irrefl]
def insL (p : RngX) : List RngX → List RngX
  | [] => [p]
  | x :: l => if strLt x.lo p.lo then x :: insL p l else if strLt p.lo x.lo then p :: x :: l else p :: l
def delL (k : ByteArray) (l : List RngX) : List RngX := l.filter fun x => !eqK x.lo k
theorem insL_len (p : RngX) (l : List RngX) : l.length ≤ (insL p l).length ∧ (insL p l).length ≤ l.length + 1 ∧ 1 ≤ (insL p l).length := by
  induction l with
  | nil => simp [insL]
  | cons x l ih => unfold insL; (split <;> try split) <;> simp <;> omega
theorem delL_len (k : ByteArray) (l : List RngX) : (delL k l).length ≤ l.length := List.length_filter_le _ _
theorem insL_mem {p y : RngX} {l : List RngX} (h : y ∈ insL p l) : y = p ∨ y ∈ l := by
  induction l with
  | nil => simpa [insL] using h
  | cons x l ih =>
    unfold insL at h
    (split at h <;> try split at h) <;> simp only [List.mem_cons] at h ⊢
    · rcases h with h | h
      · exact .inr (.inl h)
      · rcases ih h with h | h
        · exact .inl h
        · exact .inr (.inr h)
    · exact h
    · rcases h with h | h
      · exact .inl h
      · exact .inr (.inr h)
theorem insL_srt {p : RngX} {l : List RngX} (h : Srt l) : Srt (insL p l) := by
  induction l with
  | nil => simp [insL, Srt]
  | cons x l ih =>
    unfold Srt at h
    rw [List.pairwise_cons] at h
    obtain ⟨h1, h2⟩ := h
    unfold insL Srt
    split <;> try split
    · rename_i e
      rw [List.pairwise_cons]
      refine ⟨fun y hy => ?_, ih h2⟩
      rcases insL_mem hy with rfl | hy
      · exact e
      · exact h1 y hy
    · rename_i e e2
      rw [List.pairwise_cons, List.pairwise_cons]
      refine ⟨fun y hy => ?_, h1, h2⟩
      rcases List.mem_cons.1 hy with rfl | hy
      · exact e2
      · exact strLt_trans e2 (h1 y hy)
    · rename_i e e2
      have e3 : x.lo = p.lo := strLt_tri (by simpa using e) (by simpa using e2)
      rw [List.pairwise_cons]
      exact ⟨fun y hy => by rw [← e3]; exact h1 y hy, h2⟩
theorem insL_front {p : RngX} {A B : List RngX} (h : ∀ a ∈ A, strLt a.lo p.lo = true) : insL p (A ++ B) = A ++ insL p B := by
  induction A with
  | nil => rfl
  | cons a A ih =>
    simp only [List.cons_append, insL]
    rw [if_pos (h a (by simp)), ih fun x hx => h x (by simp [hx])]
theorem insL_back {p : RngX} {B C : List RngX} (h : C = [] ∨ strLt p.lo (headKey C) = true) : insL p (B ++ C) = insL p B ++ C := by
  induction B with
  | nil =>
    cases C with
    | nil => rfl
    | cons c C =>
      rcases h with h | h
      · cases h
      · have h' : strLt p.lo c.lo = true := h
        simp only [List.nil_append, insL]
        rw [if_neg (by rw [lt_asym h']; simp), if_pos h']; rfl
  | cons b B ih =>
    simp only [List.cons_append, insL]
    split <;> try split
    · rw [ih]; rfl
    · rfl
    · rfl
theorem delL_none {k : ByteArray} {l : List RngX} (h : ∀ a ∈ l, a.lo ≠ k) : delL k l = l :=
  List.filter_eq_self.2 fun a ha => by
    cases e : eqK a.lo k with
    | false => rfl
    | true => exact absurd (eqK_iff.1 e) (h a ha)
theorem delL_app (k : ByteArray) (a b : List RngX) : delL k (a ++ b) = delL k a ++ delL k b := List.filter_append ..
theorem delL_srt {k : ByteArray} {l : List RngX} (h : Srt l) : Srt (delL k l) := h.sublist List.filter_sublist
theorem delL_mem {k : ByteArray} {l : List RngX} {p : RngX} : p ∈ delL k l ↔ p ∈ l ∧ p.lo ≠ k := by
  unfold delL
  rw [List.mem_filter]
  constructor
  · rintro ⟨h, h2⟩
    exact ⟨h, fun e => by rw [eqK_iff.2 e] at h2; cases h2⟩
  · rintro ⟨h, h2⟩
    refine ⟨h, ?_⟩
    cases e : eqK p.lo k with
    | false => rfl
    | true => exact absurd (eqK_iff.1 e) h2
theorem Srt.app {a b : List RngX} : Srt (a ++ b) ↔ Srt a ∧ Srt b ∧ ∀ x ∈ a, ∀ y ∈ b, strLt x.lo y.lo = true := List.pairwise_append

/-! The way to a key -/
def wayI (ks : List Tw) (key : ByteArray) : Nat := ((ks.drop 1).takeWhile fun c => !strLt key c.least).length
theorem wayI_lt {ks : List Tw} {key : ByteArray} (h : ks ≠ []) : wayI ks key < ks.length := by
  unfold wayI
  have h1 : ((ks.drop 1).takeWhile fun c => !strLt key c.least).length ≤ (ks.drop 1).length := (List.takeWhile_sublist _).length_le
  have h2 : ks.length ≠ 0 := fun e => h (List.eq_nil_of_length_eq_zero e)
  rw [List.length_drop] at h1
  omega
/-- A place that is the way's. -/
structure Way (ks : List Tw) (key : ByteArray) (i : Nat) : Prop where
  lt : i < ks.length
  le : i = 0 ∨ ∃ c, ks[i]? = some c ∧ strLt key c.least = false
  gt : ∀ c, ks[i + 1]? = some c → strLt key c.least = true
theorem takeWhile_get {α : Type} {p : α → Bool} : ∀ (l : List α) (j : Nat), j < (l.takeWhile p).length → ∃ x, l[j]? = some x ∧ p x = true
  | [], j, h => by simp at h
  | a :: l, j, h => by
    cases e : p a with
    | false => simp [List.takeWhile, e] at h
    | true =>
      cases j with
      | zero => exact ⟨a, rfl, e⟩
      | succ j =>
        simp only [List.takeWhile, e, List.length_cons] at h
        obtain ⟨x, h1, h2⟩ := takeWhile_get (p := p) l j (by omega)
        exact ⟨x, by simpa using h1, h2⟩
theorem takeWhile_stop {α : Type} {p : α → Bool} : ∀ (l : List α) (x : α), l[(l.takeWhile p).length]? = some x → p x = false
  | [], x, h => by simp at h
  | a :: l, x, h => by
    cases e : p a with
    | false => simp [List.takeWhile, e] at h; rw [← h]; exact e
    | true =>
      simp only [List.takeWhile, e, List.length_cons, List.getElem?_cons_succ] at h
      exact takeWhile_stop l x h
theorem wayI_way {ks : List Tw} {key : ByteArray} (h : ks ≠ []) : Way ks key (wayI ks key) := by
  refine ⟨wayI_lt h, ?_, fun c hc => ?_⟩
  · rcases Nat.eq_zero_or_pos (wayI ks key) with e | e
    · exact .inl e
    · right
      obtain ⟨x, h1, h2⟩ := takeWhile_get (p := fun c => !strLt key c.least) (ks.drop 1) (wayI ks key - 1) (by unfold wayI at e ⊢; omega)
      rw [List.getElem?_drop, show 1 + (wayI ks key - 1) = wayI ks key by omega] at h1
      exact ⟨x, h1, by simpa using h2⟩
  · have := takeWhile_stop (p := fun c => !strLt key c.least) (ks.drop 1) c (by rw [List.getElem?_drop, Nat.add_comm]; exact hc)
    simpa using this
theorem Shp.ne {b : Bool} {d : Nat} {x : Tw} (h : Shp b d x) : x.all ≠ [] := by
  have := h.manyR.1
  intro e; rw [e] at this; simp at this
mutual
theorem Shp.least_eq : ∀ {b : Bool} {d : Nat} (x : Tw), Shp b d x → x.least = headKey x.all
  | b, d, .mk ps ks, h => by
    cases h with
    | leaf h1 h2 => simp [Tw.least, Tw.leasts, Tw.all, Tw.alls]
    | node h1 h2 h3 =>
      simp only [Tw.least, Tw.all, List.append_nil]
      exact Shp.leasts_eq ks h3 (by intro e; subst e; simp at h1)
theorem Shp.leasts_eq : ∀ {d : Nat} {ps : List RngX} (ks : List Tw), (∀ k, k ∈ ks → Shp false d k) → ks ≠ [] → Tw.leasts ps ks = headKey (Tw.alls ks)
  | d, ps, [], h, hne => absurd rfl hne
  | d, ps, k :: ks, h, _ => by
    have h1 := h k (by simp)
    have h2 := Shp.least_eq k h1
    simp only [Tw.leasts, Tw.alls]
    rw [h2]
    cases e : k.all with
    | nil => exact absurd e h1.ne
    | cons p l => rfl
end
theorem Shp.least_mem {b : Bool} {d : Nat} {x : Tw} (h : Shp b d x) : ∃ p, p ∈ x.all ∧ p.lo = x.least := by
  rw [h.least_eq]
  cases e : x.all with
  | nil => exact absurd e h.ne
  | cons p l => exact ⟨p, by simp, rfl⟩
theorem at_split {α : Type} {ks : List α} {i : Nat} {c : α} (h : ks[i]? = some c) : ks = ks.take i ++ c :: ks.drop (i + 1) := by
  have hi := (List.getElem?_eq_some_iff.1 h).1
  have h1 := List.drop_eq_getElem_cons hi
  rw [(List.getElem?_eq_some_iff.1 h).2] at h1
  rw [← h1, List.take_append_drop]
theorem Tw.alls_at {ks : List Tw} {i : Nat} {c : Tw} (h : ks[i]? = some c) : Tw.alls ks = Tw.alls (ks.take i) ++ (c.all ++ Tw.alls (ks.drop (i + 1))) := by
  conv => lhs; rw [at_split h]
  rw [Tw.alls_app]; rfl
/-- What lies left of the way is less than the key; what lies right of it is more. -/
theorem Way.sides {ks : List Tw} {key : ByteArray} {i d : Nat} {c : Tw} (w : Way ks key i) (hc : ks[i]? = some c) (hs : Srt (Tw.alls ks)) (h3 : ∀ k, k ∈ ks → Shp false d k) :
    (∀ a ∈ Tw.alls (ks.take i), strLt a.lo key = true) ∧ (∀ a ∈ Tw.alls (ks.drop (i + 1)), strLt key a.lo = true) ∧ (Tw.alls (ks.drop (i + 1)) = [] ∨ strLt key (headKey (Tw.alls (ks.drop (i + 1)))) = true) := by
  have h0 := hs
  rw [Tw.alls_at hc, Srt.app] at hs
  obtain ⟨_, h2, h4⟩ := hs
  have hcs := h3 c (List.mem_of_getElem? hc)
  obtain ⟨q, hq, hq2⟩ := hcs.least_mem
  have hR : Tw.alls (ks.drop (i + 1)) = [] ∨ strLt key (headKey (Tw.alls (ks.drop (i + 1)))) = true := by
    cases e : ks.drop (i + 1) with
    | nil => exact .inl rfl
    | cons y r =>
      right
      have hy : ks[i + 1]? = some y := by
        have := congrArg (fun l => l[0]?) e
        simpa using this
      have hys := h3 y (List.mem_of_getElem? hy)
      have := w.gt y hy
      rw [hys.least_eq] at this
      simp only [Tw.alls]
      cases e2 : y.all with
      | nil => exact absurd e2 hys.ne
      | cons p l => rw [e2] at this; exact this
  refine ⟨fun a ha => ?_, fun a ha => ?_, hR⟩
  · rcases w.le with e | ⟨c', hc', hl⟩
    · subst e; simp [Tw.alls] at ha
    · rw [hc] at hc'; cases hc'
      have h5 := h4 a ha q (by simp [hq])
      rw [hq2] at h5
      exact lt_le h5 hl
  · rcases hR with e | e
    · rw [e] at ha; simp at ha
    · rw [Srt.app] at h2
      obtain ⟨_, h6, _⟩ := h2
      cases e2 : Tw.alls (ks.drop (i + 1)) with
      | nil => rw [e2] at ha; simp at ha
      | cons p l =>
        rw [e2] at ha e h6
        have e : strLt key p.lo = true := e
        rcases List.mem_cons.1 ha with rfl | ha
        · exact e
        · exact strLt_trans e ((List.pairwise_cons.1 h6).1 a ha)
theorem Way.uniq {ks : List Tw} {key : ByteArray} {i j d : Nat} (w : Way ks key i) (w' : Way ks key j) (hs : Srt (Tw.alls ks)) (h3 : ∀ k, k ∈ ks → Shp false d k) : i = j := by
  have main : ∀ {i j : Nat}, Way ks key i → Way ks key j → ¬ i < j := by
    intro i j w w' hlt
    obtain ⟨c, hc⟩ : ∃ c, ks[i]? = some c := ⟨_, List.getElem?_eq_getElem w.lt⟩
    rcases w'.le with e | ⟨y, hy, hl⟩
    · omega
    · have hys := h3 y (List.mem_of_getElem? hy)
      obtain ⟨q, hq, hq2⟩ := hys.least_mem
      have hm : q ∈ Tw.alls (ks.drop (i + 1)) := by
        have hy' : (ks.drop (i + 1))[j - (i + 1)]? = some y := by rw [List.getElem?_drop, show i + 1 + (j - (i + 1)) = j by omega]; exact hy
        rw [Tw.alls_at hy']; simp [hq]
      have := (w.sides hc hs h3).2.1 q hm
      rw [hq2, hl] at this; cases this
  have a := main w w'
  have b := main w' w
  omega

/-! Putting -/
def two (r : Tw × Option Tw) : List Tw := r.1 :: r.2.toList
def splitP (l : List RngX) : Tw × Option Tw := if l.length ≤ 4 then (.mk l [], none) else (.mk (l.take 3) [], some (.mk (l.drop 3) []))
def splitK (l : List Tw) : Tw × Option Tw := if l.length ≤ 4 then (.mk [] l, none) else (.mk [] (l.take 3), some (.mk [] (l.drop 3)))
def Tw.put : Nat → Tw → RngX → Tw × Option Tw
  | 0, x, _ => (x, none)
  | _ + 1, .mk ps [], p => splitP (insL p ps)
  | n + 1, .mk ps (c :: cs), p => match (c :: cs)[wayI (c :: cs) p.lo]? with
    | none => (.mk ps (c :: cs), none)
    | some k => splitK ((c :: cs).take (wayI (c :: cs) p.lo) ++ (two (k.put n p) ++ (c :: cs).drop (wayI (c :: cs) p.lo + 1)))
theorem put_leaf {n : Nat} {ps : List RngX} {p : RngX} : Tw.put (n + 1) (.mk ps []) p = splitP (insL p ps) := rfl
theorem put_node {n i : Nat} {ps : List RngX} {ks : List Tw} {p : RngX} {k : Tw} (hi : wayI ks p.lo = i) (hk : ks[i]? = some k) :
    Tw.put (n + 1) (.mk ps ks) p = splitK (ks.take i ++ (two (k.put n p) ++ ks.drop (i + 1))) := by
  subst hi
  cases ks with
  | nil => simp at hk
  | cons c cs => simp only [Tw.put, hk]
/-- One node, or two that are not roots. -/
def Shp2 (b : Bool) (d : Nat) (r : Tw × Option Tw) : Prop := (r.2 = none → Shp b d r.1) ∧ ∀ y, r.2 = some y → Shp false d r.1 ∧ Shp false d y
theorem Shp2.two {d : Nat} {r : Tw × Option Tw} (h : Shp2 false d r) : ∀ k ∈ two r, Shp false d k := by
  obtain ⟨x, o⟩ := r
  cases o with
  | none => intro k hk; simp [Go.Vm.two] at hk; subst hk; exact h.1 rfl
  | some y =>
    obtain ⟨h1, h2⟩ := h.2 y rfl
    intro k hk
    simp [Go.Vm.two] at hk
    rcases hk with rfl | rfl
    · exact h1
    · exact h2
theorem two_len (r : Tw × Option Tw) : 1 ≤ (two r).length ∧ (two r).length ≤ 2 := by
  obtain ⟨x, o⟩ := r
  cases o <;> simp [two]
theorem splitP_shp {b : Bool} {l : List RngX} (h : (if b then 1 else 2) ≤ l.length) (h2 : l.length ≤ 5) : Shp2 b 1 (splitP l) := by
  unfold splitP
  split
  · exact ⟨fun _ => .leaf h (by assumption), fun y hy => by cases hy⟩
  · refine ⟨fun e => (by cases e), fun y hy => ?_⟩
    cases hy
    exact ⟨.leaf (by simp; omega) (by simp; omega), .leaf (by simp; omega) (by simp; omega)⟩
theorem splitK_shp {b : Bool} {d : Nat} {l : List Tw} (h : 2 ≤ l.length) (h2 : l.length ≤ 5) (h3 : ∀ k ∈ l, Shp false d k) : Shp2 b (d + 1) (splitK l) := by
  unfold splitK
  split
  · exact ⟨fun _ => .node h (by assumption) h3, fun y hy => by cases hy⟩
  · refine ⟨fun e => (by cases e), fun y hy => ?_⟩
    cases hy
    exact ⟨.node (by simp; omega) (by simp; omega) fun k hk => h3 k (List.mem_of_mem_take hk), .node (by simp; omega) (by simp; omega) fun k hk => h3 k (List.mem_of_mem_drop hk)⟩
theorem splitP_all (l : List RngX) : Tw.alls (two (splitP l)) = l := by
  unfold splitP
  split <;> simp [two, Tw.alls, Tw.all]
theorem splitK_all (l : List Tw) : Tw.alls (two (splitK l)) = Tw.alls l := by
  unfold splitK
  split
  · simp [two, Tw.alls, Tw.all]
  · simp only [two, Option.toList, Tw.alls, Tw.all, List.append_nil]
    rw [← Tw.alls_app, List.take_append_drop]
theorem Tw.put_ok : ∀ {b : Bool} {d : Nat} {x : Tw} (p : RngX), Shp b d x → Shp2 b d (x.put d p) ∧ (Srt x.all → Tw.alls (two (x.put d p)) = insL p x.all) := by
  intro b d x p h
  induction h with
  | leaf h1 h2 =>
    rename_i b ps
    rw [put_leaf]
    have := insL_len p ps
    refine ⟨splitP_shp (by omega) (by omega), fun _ => ?_⟩
    rw [splitP_all]; simp [Tw.all, Tw.alls]
  | node h1 h2 h3 ih =>
    rename_i b d ks
    have hne : ks ≠ [] := by intro e; subst e; simp at h1
    have w := wayI_way (key := p.lo) hne
    obtain ⟨k, hk⟩ : ∃ k, ks[wayI ks p.lo]? = some k := ⟨_, List.getElem?_eq_getElem w.lt⟩
    have hkm := List.mem_of_getElem? hk
    rw [put_node rfl hk]
    obtain ⟨i1, i2⟩ := ih k hkm
    have ht := two_len (k.put d p)
    have hlt := w.lt
    refine ⟨splitK_shp (by simp; omega) (by simp; omega) fun y hy => ?_, fun hs => ?_⟩
    · rcases List.mem_append.1 hy with hy | hy
      · exact h3 y (List.mem_of_mem_take hy)
      · rcases List.mem_append.1 hy with hy | hy
        · exact i1.two y hy
        · exact h3 y (List.mem_of_mem_drop hy)
    · simp only [Tw.all, List.append_nil] at hs ⊢
      obtain ⟨a, _, c⟩ := w.sides hk hs h3
      have hsk : Srt k.all := by
        rw [Tw.alls_at hk, Srt.app, Srt.app] at hs
        exact hs.2.1.1
      rw [splitK_all, Tw.alls_app, Tw.alls_app, i2 hsk, Tw.alls_at hk, insL_front a, insL_back c]

/-! Dropping -/
def Tw.few (x : Tw) : Bool := decide (x.ps.length + x.ks.length < 2)
def Tw.join (a b : Tw) : Tw := .mk (a.ps ++ b.ps) (a.ks ++ b.ks)
def resplit (a b : Tw) : List Tw :=
  if (a.ps ++ b.ps).length + (a.ks ++ b.ks).length ≤ 4 then [a.join b]
  else if (a.ks ++ b.ks).length = 0 then [.mk ((a.ps ++ b.ps).take 3) [], .mk ((a.ps ++ b.ps).drop 3) []]
  else [.mk (a.ps ++ b.ps) ((a.ks ++ b.ks).take 3), .mk b.ps ((a.ks ++ b.ks).drop 3)]
def mendL (ks : List Tw) (i : Nat) : List Tw :=
  match ks[i - 1]?, ks[i - 1 + 1]? with
  | some f, some s => ks.take (i - 1) ++ (resplit f s ++ ks.drop (i - 1 + 2))
  | _, _ => ks
def Tw.drop : Nat → Tw → ByteArray → Tw
  | 0, x, _ => x
  | _ + 1, .mk ps [], k => .mk (delL k ps) []
  | n + 1, .mk ps (c :: cs), k => match (c :: cs)[wayI (c :: cs) k]? with
    | none => .mk ps (c :: cs)
    | some y => .mk ps (if (y.drop n k).few then mendL ((c :: cs).set (wayI (c :: cs) k) (y.drop n k)) (wayI (c :: cs) k) else (c :: cs).set (wayI (c :: cs) k) (y.drop n k))
theorem drop_leaf {n : Nat} {ps : List RngX} {k : ByteArray} : Tw.drop (n + 1) (.mk ps []) k = .mk (delL k ps) [] := rfl
theorem drop_node {n i : Nat} {ps : List RngX} {ks : List Tw} {k : ByteArray} {y : Tw} (hi : wayI ks k = i) (hy : ks[i]? = some y) :
    Tw.drop (n + 1) (.mk ps ks) k = .mk ps (if (y.drop n k).few then mendL (ks.set i (y.drop n k)) i else ks.set i (y.drop n k)) := by
  subst hi
  cases ks with
  | nil => simp at hy
  | cons c cs => simp only [Tw.drop, hy]
inductive Low : Nat → Tw → Prop
  | leaf {ps : List RngX} (h2 : ps.length ≤ 4) : Low 1 (.mk ps [])
  | node {d : Nat} {ks : List Tw} (h1 : 1 ≤ ks.length) (h2 : ks.length ≤ 4) (h3 : ∀ k, k ∈ ks → Shp false d k) : Low (d + 1) (.mk [] ks)
theorem Low.shp {d : Nat} {x : Tw} (h : Low d x) (hf : x.few = false) : Shp false d x := by
  cases h with
  | leaf h2 => exact .leaf (by have := of_decide_eq_false hf; simp [Tw.ps, Tw.ks] at this; simp; omega) h2
  | node h1 h2 h3 => exact .node (by have := of_decide_eq_false hf; simp [Tw.ps, Tw.ks] at this; omega) h2 h3
theorem Shp.low {b : Bool} {d : Nat} {x : Tw} (h : Shp b d x) : Low d x := by
  cases h with
  | leaf h1 h2 => exact .leaf h2
  | node h1 h2 h3 => exact .node (by omega) h2 h3
theorem few_len {x : Tw} (h : x.few = true) : x.ps.length + x.ks.length ≤ 1 := by
  unfold Tw.few at h
  have := of_decide_eq_true h
  omega
theorem shp_len {d : Nat} {x : Tw} (h : Shp false d x) : 2 ≤ x.ps.length + x.ks.length ∧ x.ps.length + x.ks.length ≤ 4 := by
  cases h with
  | leaf h1 h2 => simp at h1; simp [Tw.ps, Tw.ks]; omega
  | node h1 h2 h3 => simp [Tw.ps, Tw.ks]; omega
theorem resplit_ok {d : Nat} {a b : Tw} (ha : Low d a) (hb : Low d b) (h : a.few = true ∧ Shp false d b ∨ b.few = true ∧ Shp false d a) :
    (∀ k ∈ resplit a b, Shp false d k) ∧ 1 ≤ (resplit a b).length ∧ (resplit a b).length ≤ 2 ∧ Tw.alls (resplit a b) = a.all ++ b.all := by
  have hl : 2 ≤ (a.ps ++ b.ps).length + (a.ks ++ b.ks).length ∧ (a.ps ++ b.ps).length + (a.ks ++ b.ks).length ≤ 5 := by
    simp only [List.length_append]
    rcases h with ⟨h1, h2⟩ | ⟨h1, h2⟩ <;> have := few_len h1 <;> have := shp_len h2 <;> omega
  cases ha with
  | leaf a2 =>
    cases hb with
    | node b1 b2 b3 =>
      exfalso
      have := (b3 _ (List.getElem_mem (show 0 < _ by omega))).pos
      omega
    | leaf b2 =>
      rename_i ps qs
      simp only [Tw.ps, Tw.ks, List.append_nil, List.length_nil, Nat.add_zero] at hl
      unfold resplit
      simp only [Tw.ps, Tw.ks, List.append_nil, List.length_nil, Nat.add_zero, Tw.join, Tw.all, Tw.alls, List.nil_append]
      split
      · rename_i h4
        refine ⟨fun k hk => ?_, by simp, by simp, by simp [Tw.alls, Tw.all]⟩
        simp at hk; subst hk
        exact .leaf (by simp only [Bool.false_eq_true, if_false]; omega) h4
      · rename_i h4
        rw [if_pos trivial]
        refine ⟨fun k hk => ?_, by simp, by simp, ?_⟩
        · rcases List.mem_cons.1 hk with rfl | hk
          · exact .leaf (by rw [List.length_take]; simp only [Bool.false_eq_true, if_false]; omega) (by rw [List.length_take]; omega)
          · rw [List.mem_singleton] at hk; subst hk
            exact .leaf (by rw [List.length_drop]; simp only [Bool.false_eq_true, if_false]; omega) (by rw [List.length_drop]; omega)
        · simp only [Tw.alls, Tw.all, List.nil_append, List.append_nil]
          exact List.take_append_drop ..
  | node a1 a2 a3 =>
    rename_i d ks
    cases hb with
    | leaf b2 =>
      exfalso
      have := (a3 _ (List.getElem_mem (show 0 < _ by omega))).pos
      omega
    | node b1 b2 b3 =>
      rename_i js
      have h3 : ∀ k ∈ ks ++ js, Shp false d k := fun k hk => (List.mem_append.1 hk).elim (a3 k) (b3 k)
      simp only [Tw.ps, Tw.ks, List.append_nil, List.length_nil, Nat.zero_add] at hl
      unfold resplit
      simp only [Tw.ps, Tw.ks, List.append_nil, List.length_nil, Nat.zero_add, Tw.join, Tw.all]
      split
      · rename_i h4
        refine ⟨fun k hk => ?_, by simp, by simp, by simp [Tw.alls, Tw.all, Tw.alls_app]⟩
        simp at hk; subst hk
        exact .node (by omega) h4 h3
      · rename_i h4
        rw [if_neg (by omega)]
        refine ⟨fun k hk => ?_, by simp, by simp, ?_⟩
        · rcases List.mem_cons.1 hk with rfl | hk
          · exact .node (by rw [List.length_take]; omega) (by rw [List.length_take]; omega) fun k hk => h3 k (List.mem_of_mem_take hk)
          · rw [List.mem_singleton] at hk; subst hk
            exact .node (by rw [List.length_drop]; omega) (by rw [List.length_drop]; omega) fun k hk => h3 k (List.mem_of_mem_drop hk)
        · simp only [Tw.alls, Tw.all, List.append_nil]
          rw [← Tw.alls_app, List.take_append_drop, Tw.alls_app]
theorem take_set_self {α : Type} (l : List α) (i : Nat) (y : α) : (l.set i y).take i = l.take i := by rw [List.take_set_of_le (Nat.le_refl i)]
theorem drop_set_self {α : Type} (l : List α) (i j : Nat) (y : α) (h : i < j) : (l.set i y).drop j = l.drop j := by rw [List.drop_set_of_lt h]
theorem at_two {α : Type} {ks : List α} {i : Nat} {f s : α} (h : ks[i]? = some f) (h' : ks[i + 1]? = some s) : ks = ks.take i ++ f :: s :: ks.drop (i + 2) := by
  have h1 := at_split h
  have h2 : (ks.drop (i + 1))[0]? = some s := by rw [List.getElem?_drop]; exact h'
  have h3 := at_split h2
  simp only [List.take_zero, List.nil_append, List.drop_drop] at h3
  rw [h3] at h1
  exact h1
/-- Kids of which one may have too few. -/
structure Kds (d i : Nat) (ks : List Tw) : Prop where
  lt : i < ks.length
  low : ∀ k, ks[i]? = some k → Low d k
  shp : ∀ j k, j ≠ i → ks[j]? = some k → Shp false d k
theorem Kds.mend {d i : Nat} {ks : List Tw} (h : Kds d i ks) (h2 : 2 ≤ ks.length) {k : Tw} (hk : ks[i]? = some k) (hf : k.few = true) :
    ∃ f s, ks[i - 1]? = some f ∧ ks[i - 1 + 1]? = some s ∧ Low d f ∧ Low d s ∧ (f.few = true ∧ Shp false d s ∨ s.few = true ∧ Shp false d f) := by
  have hlt := h.lt
  obtain ⟨f, hf1⟩ : ∃ f, ks[i - 1]? = some f := ⟨_, List.getElem?_eq_getElem (by omega)⟩
  obtain ⟨s, hs1⟩ : ∃ s, ks[i - 1 + 1]? = some s := ⟨_, List.getElem?_eq_getElem (by omega)⟩
  rcases Nat.eq_zero_or_pos i with e | e
  · subst e
    have e1 : f = k := by rw [hk] at hf1; cases hf1; rfl
    subst e1
    have := h.shp 1 s (by omega) hs1
    exact ⟨f, s, hf1, hs1, h.low f hk, this.low, .inl ⟨hf, this⟩⟩
  · have e1 : s = k := by rw [show i - 1 + 1 = i by omega, hk] at hs1; cases hs1; rfl
    subst e1
    have := h.shp (i - 1) f (by omega) hf1
    exact ⟨f, s, hf1, hs1, this.low, h.low s hk, .inr ⟨hf, this⟩⟩
theorem mendL_eq {ks : List Tw} {i : Nat} {f s : Tw} (hf : ks[i - 1]? = some f) (hs : ks[i - 1 + 1]? = some s) : mendL ks i = ks.take (i - 1) ++ (resplit f s ++ ks.drop (i - 1 + 2)) := by
  unfold mendL; rw [hf, hs]
theorem Kds.mended {d i : Nat} {ks : List Tw} (h : Kds d i ks) (h2 : 2 ≤ ks.length) (h4 : ks.length ≤ 4) {k : Tw} (hk : ks[i]? = some k) (hf : k.few = true) :
    (∀ y ∈ mendL ks i, Shp false d y) ∧ 1 ≤ (mendL ks i).length ∧ (mendL ks i).length ≤ 4 ∧ Tw.alls (mendL ks i) = Tw.alls ks := by
  obtain ⟨f, s, e1, e2, l1, l2, hor⟩ := h.mend h2 hk hf
  obtain ⟨r1, r2, r3, r4⟩ := resplit_ok l1 l2 hor
  have hlt := (List.getElem?_eq_some_iff.1 e2).1
  have hi := h.lt
  rw [mendL_eq e1 e2]
  refine ⟨fun y hy => ?_, by simp; omega, by simp; omega, ?_⟩
  · rcases List.mem_append.1 hy with hy | hy
    · obtain ⟨j, hj⟩ := List.getElem?_of_mem hy
      rw [List.getElem?_take] at hj
      split at hj
      · exact h.shp j y (by omega) hj
      · cases hj
    · rcases List.mem_append.1 hy with hy | hy
      · exact r1 y hy
      · obtain ⟨j, hj⟩ := List.getElem?_of_mem hy
        rw [List.getElem?_drop] at hj
        exact h.shp _ y (by omega) hj
  · conv => rhs; rw [at_two e1 e2]
    rw [Tw.alls_app, Tw.alls_app, Tw.alls_app, r4]
    simp [Tw.alls]
theorem Kds.set {d i : Nat} {ks : List Tw} {y : Tw} (h : ∀ k ∈ ks, Shp false d k) (hi : i < ks.length) (hy : Low d y) : Kds d i (ks.set i y) := by
  refine ⟨by simpa using hi, fun k hk => ?_, fun j k hj hk => ?_⟩
  · rw [List.getElem?_set_self hi] at hk; cases hk; exact hy
  · rw [List.getElem?_set_ne (by omega)] at hk; exact h k (List.mem_of_getElem? hk)
theorem Tw.drop_ok : ∀ {b : Bool} {d : Nat} {x : Tw} (k : ByteArray), Shp b d x → Low d (x.drop d k) ∧ (Srt x.all → (x.drop d k).all = delL k x.all) := by
  intro b d x key h
  induction h with
  | leaf h1 h2 =>
    rename_i b ps
    rw [drop_leaf]
    have := delL_len key ps
    exact ⟨.leaf (by omega), fun _ => by simp [Tw.all, Tw.alls]⟩
  | node h1 h2 h3 ih =>
    rename_i b d ks
    have hne : ks ≠ [] := by intro e; subst e; simp at h1
    have w := wayI_way (key := key) hne
    obtain ⟨y, hy⟩ : ∃ k, ks[wayI ks key]? = some k := ⟨_, List.getElem?_eq_getElem w.lt⟩
    have hym := List.mem_of_getElem? hy
    obtain ⟨i1, i2⟩ := ih y hym
    rw [drop_node rfl hy]
    have hlt := w.lt
    generalize hi : wayI ks key = i at *
    have hK := Kds.set h3 hlt i1
    have hall : Srt (Tw.alls ks) → Tw.alls (ks.set i (y.drop d key)) = delL key (Tw.alls ks) := by
      intro hs
      obtain ⟨a, b, _⟩ := w.sides hy hs h3
      have hsk : Srt y.all := by
        rw [Tw.alls_at hy, Srt.app, Srt.app] at hs
        exact hs.2.1.1
      have e1 : (ks.set i (y.drop d key))[i]? = some (y.drop d key) := List.getElem?_set_self hlt
      rw [Tw.alls_at e1, Tw.alls_at hy, take_set_self, drop_set_self _ _ _ _ (by omega), delL_app, delL_app, i2 hsk, delL_none fun x hx => lt_ne (a x hx), delL_none fun x hx => (lt_ne (b x hx)).symm]
    have e1 : (ks.set i (y.drop d key))[i]? = some (y.drop d key) := List.getElem?_set_self hlt
    cases hf : (y.drop d key).few with
    | true =>
      obtain ⟨m1, m2, m3, m4⟩ := hK.mended (by simpa using h1) (by simpa using h2) e1 hf
      rw [if_pos rfl]
      exact ⟨.node m2 m3 m1, fun hs => by simp only [Tw.all, List.append_nil] at hs ⊢; rw [m4, hall hs]⟩
    | false =>
      rw [if_neg (by simp)]
      refine ⟨.node (by simp; omega) (by simpa using h2) fun k hk => ?_, fun hs => by simp only [Tw.all, List.append_nil] at hs ⊢; rw [hall hs]⟩
      obtain ⟨j, hj⟩ := List.getElem?_of_mem hk
      by_cases e : j = i
      · subst e; rw [e1] at hj; cases hj; exact i1.shp hf
      · exact hK.shp j k e hj

/-! Roots: a node, or none -/
def allO : Option Tw → List RngX
  | none => []
  | some x => x.all
def layO : Option Tw → List NodeX
  | none => []
  | some x => x.lay 0
def deepO : Option Tw → Nat
  | none => 0
  | some x => x.deep
def ShpO : Option Tw → Prop
  | none => True
  | some x => ∃ d, Shp true d x
def Tw.top : Tw → Option Tw
  | .mk ps ks => if ps.length + ks.length = 0 then none else match ks with
    | [c] => some c
    | ks => some (.mk ps ks)
def putO : Option Tw → RngX → Tw
  | none, p => .mk [p] []
  | some x, p => match x.put x.deep p with
    | (x', none) => x'
    | (x', some y) => .mk [] [x', y]
def dropO : Option Tw → ByteArray → Option Tw
  | none, _ => none
  | some x, k => (x.drop x.deep k).top
theorem putO_ok {o : Option Tw} (p : RngX) (h : ShpO o) : ShpO (some (putO o p)) ∧ (Srt (allO o) → (putO o p).all = insL p (allO o)) := by
  cases o with
  | none => exact ⟨⟨1, .leaf (by simp) (by simp)⟩, fun _ => rfl⟩
  | some x =>
    obtain ⟨d, hd⟩ := h
    have e := hd.deep
    obtain ⟨h1, h2⟩ := Tw.put_ok p hd
    simp only [putO, e, allO]
    generalize x.put d p = r at *
    obtain ⟨x', m⟩ := r
    cases m with
    | none => exact ⟨⟨d, h1.1 rfl⟩, fun hs => by have := h2 hs; simpa [two, Tw.alls] using this⟩
    | some y =>
      obtain ⟨a, b⟩ := h1.2 y rfl
      refine ⟨⟨d + 1, .node (by simp) (by simp) fun k hk => ?_⟩, fun hs => by have := h2 hs; simpa [two, Tw.alls, Tw.all] using this⟩
      simp at hk
      rcases hk with rfl | rfl
      · exact a
      · exact b
theorem Low.top {d : Nat} {x : Tw} (h : Low d x) : ShpO x.top ∧ allO x.top = x.all ∧ deepO x.top ≤ d ∧ (x.top = none ↔ x.all = []) := by
  cases h with
  | leaf h2 =>
    rename_i ps
    simp only [Tw.top, List.length_nil, Nat.add_zero]
    split
    · rename_i e
      obtain rfl := List.eq_nil_of_length_eq_zero e
      exact ⟨trivial, rfl, by simp [deepO], by simp [Tw.all, Tw.alls]⟩
    · rename_i e
      refine ⟨⟨1, .leaf (by simp; omega) h2⟩, rfl, by simp [deepO, Tw.deep, Tw.deeps], ?_⟩
      simp [Tw.all, Tw.alls]
      rintro rfl; exact e rfl
  | node h1 h2 h3 =>
    rename_i d ks
    simp only [Tw.top, List.length_nil, Nat.zero_add]
    rw [if_neg (by omega)]
    match ks, h1, h2, h3 with
    | [c], h1, h2, h3 =>
      have hc := h3 c (by simp)
      refine ⟨⟨d, hc.root⟩, by simp [allO, Tw.all, Tw.alls], ?_, ?_⟩
      · simp only [deepO]; rw [hc.deep]; omega
      · simp [Tw.all, Tw.alls, hc.ne]
    | c :: c2 :: r, h1, h2, h3 =>
      have hn : Shp true (d + 1) (.mk [] (c :: c2 :: r)) := .node (by simp) h2 h3
      exact ⟨⟨d + 1, hn⟩, rfl, by simp only [deepO]; rw [hn.deep]; omega, by simp [hn.ne]⟩
theorem dropO_ok {o : Option Tw} (k : ByteArray) (h : ShpO o) : ShpO (dropO o k) ∧ (Srt (allO o) → allO (dropO o k) = delL k (allO o)) ∧ deepO (dropO o k) ≤ deepO o := by
  cases o with
  | none => exact ⟨trivial, fun _ => rfl, Nat.le_refl _⟩
  | some x =>
    obtain ⟨d, hd⟩ := h
    have e := hd.deep
    obtain ⟨h1, h2⟩ := Tw.drop_ok k hd
    obtain ⟨a, b, c, _⟩ := h1.top
    simp only [dropO, e]
    exact ⟨a, fun hs => by rw [b]; exact h2 hs, by simp only [deepO, e] at c ⊢; exact c⟩
/-- A right tree: of a root, or of none. -/
structure Vo (o : Option Tw) : Prop where
  shp : ShpO o
  ok : PairsOkP (allO o)
def TreeP (N : List NodeX) : Prop := ∃ o, Vo o ∧ N = layO o
theorem layO_nil {o : Option Tw} : layO o = [] ↔ o = none := by
  cases o with
  | none => simp [layO]
  | some x =>
    have h := Tw.lay_len x 0
    have := x.size_pos
    simp only [layO]
    constructor
    · intro e; rw [e] at h; simp at h; omega
    · intro e; cases e
theorem layO_inj {o o' : Option Tw} (h : layO o = layO o') : o = o' := by
  cases o with
  | none => exact (layO_nil.1 h.symm).symm
  | some x =>
    cases o' with
    | none => exact layO_nil.1 h
    | some y =>
      have h : x.lay 0 = y.lay 0 := h
      obtain ⟨a, _⟩ := fit_all.2 (show x.lay 0 = x.lay 0 from rfl)
      obtain ⟨b, _⟩ := fit_all.2 (show y.lay 0 = y.lay 0 from rfl)
      rw [← h] at b
      rw [Fit.uniq x y 0 a b]
theorem Vo.deep_le {o : Option Tw} (h : Vo o) : deepO o ≤ 7 := by
  cases o with
  | none => simp [deepO]
  | some x =>
    obtain ⟨d, hd⟩ := h.shp
    simp only [deepO]
    rw [hd.deep]
    exact hd.deep_le h.ok.len
theorem Vo.lay_le {o : Option Tw} (h : Vo o) : (layO o).length ≤ 200 := by
  cases o with
  | none => simp [layO]
  | some x =>
    obtain ⟨d, hd⟩ := h.shp
    have := hd.manyR.2.2.1
    have h2 : x.all.length ≤ 200 := h.ok.len
    simp only [layO, Tw.lay_len]; omega
theorem Vo.put {o : Option Tw} (h : Vo o) {p : RngX} (hp : kvOkB p = true) (hl : (insL p (allO o)).length ≤ 200) : Vo (some (putO o p)) ∧ (putO o p).all = insL p (allO o) := by
  obtain ⟨a, b⟩ := putO_ok p h.shp
  have e := b h.ok.srt
  refine ⟨⟨a, ?_⟩, e⟩
  show PairsOkP (putO o p).all
  rw [e]
  exact ⟨hl, fun q hq => (insL_mem hq).elim (fun e => by rw [e]; exact hp) (h.ok.ok q), insL_srt h.ok.srt⟩
theorem Vo.drop {o : Option Tw} (h : Vo o) (k : ByteArray) : Vo (dropO o k) ∧ allO (dropO o k) = delL k (allO o) ∧ deepO (dropO o k) ≤ deepO o := by
  obtain ⟨a, b, c⟩ := dropO_ok k h.shp
  have e := b h.ok.srt
  refine ⟨⟨a, ?_⟩, e, c⟩
  rw [e]
  exact ⟨Nat.le_trans (delL_len k _) h.ok.len, fun q hq => h.ok.ok q (delL_mem.1 hq).1, delL_srt h.ok.srt⟩
end Go.Vm
namespace Go.Vm
open Go.Proofs
set_option maxRecDepth 100000
set_option linter.unusedVariables false
set_option linter.unusedSimpArgs false

/-! A node with what is below it, n levels deep -/
def twE : Nat → Tw → List D
  | 0, _ => [.dead]
  | n + 1, .mk ps ks => [.box [.row 2 RngX.ds ps, .row 1 (twE n) ks]]
theorem twE_len (n : Nat) (x : Tw) : (twE n x).length = 1 := by cases n <;> cases x <;> rfl
def strE1 (s : ByteArray) : List D := [.lf (.string s)]
def intE1 (n : Int) : List D := [.lf (.int .i64 n)]
def NodeX.ds (n : NodeX) : List D := [.row 2 RngX.ds n.ps, .row 1 strE1 n.keys, .row 1 intE1 n.kids]
def valOkB (s : ByteArray) : Bool := decide (s.size ≤ 60)
theorem ev_iValOk : ∀ x, evFnX tab [] (cS1 valOkB) Try.f35 (body Try.f35) x := by
  intro s
  conv => whnf
  refine ⟨⟨rfl, ?_⟩⟩
  show _ = [[D.lf (.bool (valOkB s))]]
  unfold valOkB
  congr 4
  exact decide_eq_decide.2 (by omega)
theorem iValOk_ok : FnOk Try.prog 35 (cS1 valOkB) := fnOk_of fun x => fnX_at tab_ok (SOk.nil) mixed (fn := Try.f35) (code := body Try.f35) ⟨Try.func35, rfl, by kernel_rfl, by kernel_rfl, by kernel_rfl, by kernel_rfl⟩ (ev_iValOk x)
theorem ev_iPairOk : ∀ x, evFnX tab [(34, cKeyOk), (35, (cS1 valOkB))] (pureC RngX [(.rd, true)] [false] (fun x => [x.ds]) (fun x => [[.lf (.bool (kvOkB x))]])) Try.f113 (body Try.f113) x := by
  rintro ⟨k, v⟩
  conv => whnf
  refine ⟨k, rfl, ?_⟩
  rintro _ _ ⟨rfl, rfl⟩
  conv => whnf
  refine br2 (fun h => ?_) (fun h => ?_)
  · replace h : keyOkB k = true := h
    conv => whnf
    refine ⟨v, rfl, ?_⟩
    rintro _ _ ⟨rfl, rfl⟩
    conv => whnf
    refine ⟨⟨rfl, ?_⟩⟩
    show [[D.lf (.bool (valOkB v))]] = [[D.lf (.bool (kvOkB ⟨k, v⟩))]]
    simp [kvOkB, h, valOkB]
  · replace h : keyOkB k = false := h
    conv => whnf
    refine ⟨⟨rfl, ?_⟩⟩
    show _ = [[D.lf (.bool (kvOkB ⟨k, v⟩))]]
    simp [kvOkB, h]
theorem iPairOk_ok : FnOk Try.prog 113 (pureC RngX [(.rd, true)] [false] (fun x => [x.ds]) (fun x => [[.lf (.bool (kvOkB x))]])) := fnOk_of fun x => fnX_at tab_ok (SOk.cons iKeyOk_ok (SOk.cons iValOk_ok SOk.nil)) mixed (fn := Try.f113) (code := body Try.f113) ⟨Try.func113, rfl, by kernel_rfl, by kernel_rfl, by kernel_rfl, by kernel_rfl⟩ (ev_iPairOk x)
/-- Pairs are right so far, and their keys rise. -/
def RiseTo (l : List RngX) (i : Nat) : Prop := ∀ j y, j < i → l[j]? = some y → kvOkB y = true ∧ ∀ z, 0 < j → l[j - 1]? = some z → strLt z.lo y.lo = true
theorem riseTo_all {l : List RngX} : RiseTo l l.length ↔ (∀ p ∈ l, kvOkB p = true) ∧ Srt l := by
  constructor
  · intro h
    refine ⟨fun p hp => ?_, ?_⟩
    · obtain ⟨j, hj⟩ := List.getElem?_of_mem hp
      exact (h j p (List.getElem?_eq_some_iff.1 hj).1 hj).1
    · unfold Srt
      have key : ∀ i j (hi : i < l.length) (hj : j < l.length), i < j → strLt l[i].lo l[j].lo = true := by
        intro i j hi hj hij
        induction j with
        | zero => omega
        | succ j ih =>
          have h1 := (h (j + 1) l[j + 1] hj (List.getElem?_eq_getElem hj)).2 l[j] (by omega) (List.getElem?_eq_getElem (by omega))
          rcases Nat.lt_or_ge i j with h2 | h2
          · exact strLt_trans (ih (by omega) h2) h1
          · obtain rfl : i = j := by omega
            exact h1
      exact List.pairwise_iff_getElem.2 fun i j hi hj hij => key i j hi hj hij
  · rintro ⟨h1, h2⟩ j y hj hy
    refine ⟨h1 y (List.mem_of_getElem? hy), fun z h0 hz => ?_⟩
    have h3 := List.pairwise_iff_getElem.1 h2 (j - 1) j (by omega) hj (by omega)
    have e1 := (List.getElem?_eq_some_iff.1 hy).2
    have e2 := (List.getElem?_eq_some_iff.1 hz).2
    rw [e1, e2] at h3
    exact h3
def cRise (P : List RngX → Prop) : Con := relC (List RngX) [(.rd, false)] [false] (fun l => [[.row 2 RngX.ds l]]) (fun l r => ∃ b : Bool, r = [[.lf (.bool b)]] ∧ (b = true ↔ P l))
theorem ev_iRise : ∀ x, evFnX tab [(113, (pureC RngX [(.rd, true)] [false] (fun x => [x.ds]) (fun x => [[.lf (.bool (kvOkB x))]])))] (cRise fun l => (∀ p ∈ l, kvOkB p = true) ∧ Srt l) Try.f94 (body Try.f94) x := by
  intro (l : List RngX)
  conv => whnf
  intro hl
  replace hl : l.length ≤ 9223372036854775807 := hl
  conv => whnf
  let S0 : Nat → Sl := fun i => [(7, .lf (.int .i64 i)), (6, .lf (.int .i64 l.length)), (5, .sl 0 none), (0, .sl 0 none)]
  let H0 : Hp := [(0, some (.row .lent 2 RngX.ds l))]
  refine ⟨fun m s h => ∃ i : Nat, i ≤ l.length ∧ RiseTo l i ∧ m = l.length - i ∧ s = S0 i ∧ h = H0, l.length, [(0, 0)], S0 0, H0, ⟨rfl, ⟨rfl, rfl, rfl, rfl, trivial⟩, rfl, trivial⟩, ⟨0, by omega, fun j y h => by omega, by omega, rfl, rfl⟩, ?_⟩
  rintro m _ _ ⟨i, g1, g2, rfl, rfl, rfl⟩
  conv => whnf
  refine br2 (fun h5 => ?_) (fun h5 => ?_)
  · have hi : i < l.length := by have := of_decide_eq_true h5; omega
    obtain ⟨y, hy⟩ := getL hi
    have no : ¬ (kvOkB y = true ∧ ∀ z, 0 < i → l[i - 1]? = some z → strLt z.lo y.lo = true) → (false = true ↔ (∀ p ∈ l, kvOkB p = true) ∧ Srt l) := fun h =>
      ⟨fun e => (by cases e), fun e => absurd (riseTo_all.2 e i y hi hy) h⟩
    have yes : (kvOkB y = true ∧ ∀ z, 0 < i → l[i - 1]? = some z → strLt z.lo y.lo = true) → RiseTo l (i + 1) := fun h j z hj hz => by
      rcases Nat.lt_or_ge j i with h1 | h1
      · exact g2 j z h1 hz
      · obtain rfl : j = i := by omega
        rw [hy] at hz; cases hz; exact h
    conv => whnf
    refine ⟨Int.natCast_nonneg _, ltI hy, ?_⟩
    conv => whnf
    refine ex2 _ (nthI hy) ?_
    conv => whnf
    refine ⟨y, rfl, ?_⟩
    rintro _ _ ⟨rfl, rfl⟩
    conv => whnf
    repeat ((first | refine rc_i rfl ?_ | refine rc_i (fun _ => rfl) ?_); conv => whnf)
    have hw1 : 0 < i → IntKind.i64.wrap ((i : Int) - 1) = ((i - 1 : Nat) : Int) := fun h => by rw [w64 (by omega) (by omega)]; omega
    have back : ∀ {s' : Sl} {h' : Hp}, RiseTo l (i + 1) → Le [(0, 0)] (S0 (i + 1)) H0 s' h' → ∃ m' ρ s'' h'', m' < l.length - i ∧ Le ρ s'' h'' s' h' ∧ ∃ i, i ≤ l.length ∧ RiseTo l i ∧ m' = l.length - i ∧ s'' = S0 i ∧ h'' = H0 := fun h hle =>
      ⟨l.length - (i + 1), [(0, 0)], S0 (i + 1), H0, by omega, hle, i + 1, by omega, h, rfl, rfl, rfl⟩
    refine br2 (fun h6 => ?_) (fun h6 => ?_)
    · have h6' : kvOkB y = false := by
        replace h6 : (!kvOkB y) = true := h6
        simpa using h6
      conv => whnf
      exact ⟨⟨rfl, false, rfl, no fun h => by rw [h6'] at h; cases h.1⟩⟩
    have h6' : kvOkB y = true := by
      replace h6 : (!kvOkB y) = false := h6
      simpa using h6
    conv => whnf
    refine br2 (fun h7 => ?_) (fun h7 => ?_)
    · have h7' : 0 < i := by have := of_decide_eq_true h7; omega
      obtain ⟨z, hz⟩ := getL (l := l) (j := i - 1) (by omega)
      conv => whnf
      refine ⟨(ixE (hw1 h7') hz).1, (ixE (hw1 h7') hz).2, ?_⟩
      conv => whnf
      refine ex2 _ (nthE (hw1 h7') hz) ?_
      conv => whnf
      repeat (refine rc_i (by (conv => whnf); first | rfl | exact ⟨(ixE (hw1 h7') hz).1, (ixE (hw1 h7') hz).2, rfl⟩ | exact ex2 _ (nthE (hw1 h7') hz) rfl) ?_; conv => whnf)
      refine br2 (fun h8 => ?_) (fun h8 => ?_)
      · have h8' : strLt z.lo y.lo = false := by
          replace h8 : (!strLt z.lo y.lo) = true := h8
          simpa using h8
        conv => whnf
        exact ⟨⟨rfl, false, rfl, no fun h => by rw [h.2 z h7' hz] at h8'; cases h8'⟩⟩
      · have h8' : strLt z.lo y.lo = true := by
          replace h8 : (!strLt z.lo y.lo) = false := h8
          simpa using h8
        conv => whnf
        exact back (yes ⟨h6', fun z' _ hz' => by rw [hz] at hz'; cases hz'; exact h8'⟩) ⟨rfl, ⟨incI hi hl, rfl, rfl, rfl, trivial⟩, rfl, trivial⟩
    · have h7' : ¬ 0 < i := by have := of_decide_eq_false h7; omega
      conv => whnf
      exact back (yes ⟨h6', fun z' h0 _ => absurd h0 h7'⟩) ⟨rfl, ⟨incI hi hl, rfl, rfl, rfl, trivial⟩, rfl, trivial⟩
  · have hi : i = l.length := by have := of_decide_eq_false h5; omega
    subst hi
    conv => whnf
    exact ⟨⟨rfl, true, rfl, fun _ => riseTo_all.1 g2, fun _ => rfl⟩⟩
theorem iRise_ok : FnOk Try.prog 94 (cRise fun l => (∀ p ∈ l, kvOkB p = true) ∧ Srt l) := fnOk_of fun x => fnX_at tab_ok (SOk.cons iPairOk_ok SOk.nil) mixed (fn := Try.f94) (code := body Try.f94) ⟨Try.func94, rfl, by kernel_rfl, by kernel_rfl, by kernel_rfl, by kernel_rfl⟩ (ev_iRise x)
def cPairsOk : Con := cRise PairsOkP
theorem ev_iPairsOk : ∀ x, evFnX tab [(94, (cRise fun l => (∀ p ∈ l, kvOkB p = true) ∧ Srt l))] cPairsOk Try.f69 (body Try.f69) x := by
  intro (l : List RngX)
  conv => whnf
  refine ⟨l, rfl, ?_⟩
  rintro _ _ ⟨rfl, b, rfl, e⟩
  conv => whnf
  refine br2 (fun h => ?_) (fun h => ?_)
  · have h1 := e.1 h
    conv => whnf
    intro hl
    conv => whnf
    refine ⟨⟨rfl, _, rfl, ?_, ?_⟩⟩
    · intro h2
      have := of_decide_eq_true h2
      exact ⟨by omega, h1.1, h1.2⟩
    · intro h2
      exact decide_eq_true (by have := h2.len; omega)
  · conv => whnf
    refine ⟨⟨rfl, _, rfl, ?_, ?_⟩⟩
    · intro h2; cases h2
    · intro h2
      have := e.2 ⟨h2.ok, h2.srt⟩
      rw [this] at h; cases h
theorem iPairsOk_ok : FnOk Try.prog 69 cPairsOk := fnOk_of fun x => fnX_at tab_ok (SOk.cons iRise_ok SOk.nil) mixed (fn := Try.f69) (code := body Try.f69) ⟨Try.func69, rfl, by kernel_rfl, by kernel_rfl, by kernel_rfl, by kernel_rfl⟩ (ev_iPairsOk x)
theorem ev_copyPairs : ∀ x, evFnX tab [] (cCopyS 2 RngX.ds) Try.f92 (body Try.f92) x := by
  rintro ⟨l, hl⟩
  conv => whnf
  refine ⟨fun _ => rfl, ?_⟩
  conv => whnf
  refine ⟨RngX, RngX.ds, l, fun _ => rfl, rfl, (show l.length ≤ 4294967296 by omega), ?_⟩
  conv => whnf
  exact ⟨⟨rfl, rfl⟩⟩
theorem copyPairs_ok : FnOk Try.prog 92 (cCopyS 2 RngX.ds) := fnOk_of fun x => fnX_at tab_ok (SOk.nil) mixed (fn := Try.f92) (code := body Try.f92) ⟨Try.func92, rfl, by kernel_rfl, by kernel_rfl, by kernel_rfl, by kernel_rfl⟩ (ev_copyPairs x)
/-- A node whose kids and pairs are there, told n levels deep. -/
structure TwX where
  n : Nat
  x : Tw
  b : Bool
  d : Nat
  h : Shp b d x
  hn : d ≤ n
theorem ev_isLeaf : ∀ x, evFnX tab [] (pureC (Nat × Tw) [(.rd, false)] [false] (fun t => [twE (t.1 + 1) t.2]) (fun t => [[.lf (.bool (decide (t.2.ks.length = 0)))]])) Try.f95 (body Try.f95) x := by
  rintro ⟨n, ⟨ps, ks⟩⟩
  conv => whnf
  intro h
  conv => whnf
  refine ⟨⟨rfl, ?_⟩⟩
  show [[D.lf (.bool ((ks.length : Int) == 0))]] = [[D.lf (.bool (decide (ks.length = 0)))]]
  congr 4
  rw [Bool.eq_iff_iff]
  simp
theorem isLeaf_ok : FnOk Try.prog 95 (pureC (Nat × Tw) [(.rd, false)] [false] (fun t => [twE (t.1 + 1) t.2]) (fun t => [[.lf (.bool (decide (t.2.ks.length = 0)))]])) := fnOk_of fun x => fnX_at tab_ok (SOk.nil) mixed (fn := Try.f95) (code := body Try.f95) ⟨Try.func95, rfl, by kernel_rfl, by kernel_rfl, by kernel_rfl, by kernel_rfl⟩ (ev_isLeaf x)
def cLeast : Con := pureC TwX [(.rd, false)] [false] (fun t => [twE t.n t.x]) (fun t => [[.lf (.string t.x.least)]])
theorem ev_least : ∀ x, evFnX tab [(95, (pureC (Nat × Tw) [(.rd, false)] [false] (fun t => [twE (t.1 + 1) t.2]) (fun t => [[.lf (.bool (decide (t.2.ks.length = 0)))]])))] cLeast Try.f93 (body Try.f93) x := by
  rintro ⟨n, x, b, d, h, hn⟩
  have hpos := h.pos
  obtain ⟨n, rfl⟩ : ∃ m, n = m + 1 := ⟨n - 1, by omega⟩
  obtain ⟨ps, ks⟩ := x
  conv => whnf
  let S0 : Sl := [(0, .pt 0 0 0)]
  let H0 : Nat → List RngX → List Tw → Hp := fun n ps ks => [(0, some (.arr false 2 [[.sl 1 none, .sl 2 none]])), (1, some (.row .lent 2 RngX.ds ps)), (2, some (.row .lent 1 (twE n) ks))]
  refine ⟨fun m s h => ∃ (n : Nat) (qs : List RngX) (js : List Tw) (b : Bool), Shp b m (.mk qs js) ∧ m ≤ n + 1 ∧ (Tw.mk qs js).least = (Tw.mk ps ks).least ∧ s = S0 ∧ h = H0 n qs js, d, [(0, 0), (1, 1), (2, 2)], S0, H0 n ps ks,
    ⟨rfl, ⟨rfl, trivial⟩, rfl, rfl, rfl, trivial⟩, ⟨n, ps, ks, b, h, hn, rfl, rfl, rfl⟩, ?_⟩
  rintro m _ _ ⟨n', qs, js, b', g1, g2, g3, rfl, rfl⟩
  conv => whnf
  refine ⟨(n', .mk qs js), rfl, ?_⟩
  rintro _ _ ⟨rfl, rfl⟩
  conv => whnf
  refine br2 (fun h5 => ?_) (fun h5 => ?_)
  · have hj : js ≠ [] := by
      replace h5 : (!decide (js.length = 0)) = true := h5
      rintro rfl; simp at h5
    cases g1 with
    | leaf => exact absurd rfl hj
    | node k1 k2 k3 =>
      rename_i m
      obtain ⟨⟨us, is⟩, hk⟩ : ∃ k, js[0]? = some k := getL (by omega)
      have hks := k3 _ (List.mem_of_getElem? hk)
      have hp := hks.pos
      obtain ⟨n', rfl⟩ : ∃ q, n' = q + 1 := ⟨n' - 1, by omega⟩
      conv => whnf
      refine ⟨by decide, ltI hk, ?_⟩
      conv => whnf
      refine ex2 _ (nthI hk) ?_
      conv => whnf
      refine ⟨m, [(176, 0), (177, 1), (178, 2)], S0, H0 n' us is, by omega, ⟨rfl, ⟨rfl, trivial⟩, rfl, rfl, rfl, trivial⟩, n', us, is, false, hks, by omega, ?_, rfl, rfl⟩
      rw [← g3]
      cases js with
      | nil => simp at hk
      | cons c cs => cases hk; rfl
  · have hj : js = [] := by
      replace h5 : (!decide (js.length = 0)) = false := h5
      exact List.eq_nil_of_length_eq_zero (by simpa using h5)
    subst hj
    cases g1 with
    | node k1 => simp at k1
    | leaf k1 k2 =>
      obtain ⟨y, hy⟩ : ∃ y, qs[0]? = some y := getL (by cases b' <;> simp at k1 <;> omega)
      conv => whnf
      refine ⟨by decide, ltI hy, ?_⟩
      conv => whnf
      refine ex2 _ (nthI hy) ?_
      conv => whnf
      refine ⟨⟨rfl, ?_⟩⟩
      show [[D.lf (.string y.lo)]] = [[D.lf (.string (Tw.mk ps ks).least)]]
      rw [← g3]
      cases qs with
      | nil => simp at hy
      | cons c cs => cases hy; rfl
theorem least_ok : FnOk Try.prog 93 cLeast := fnOk_of fun x => fnX_at tab_ok (SOk.cons isLeaf_ok SOk.nil) mixed (fn := Try.f93) (code := body Try.f93) ⟨Try.func93, rfl, by kernel_rfl, by kernel_rfl, by kernel_rfl, by kernel_rfl⟩ (ev_least x)
/-- All pairs behind others. -/
structure AllX where
  t : TwX
  l : List RngX
  hl : l.length + t.x.all.length ≤ 4294967296
def cAll : Con := pureC AllX [(.rd, false), (.take, false)] [false] (fun a => [twE a.t.n a.t.x, [.row 2 RngX.ds a.l]]) (fun a => [[.row 2 RngX.ds (a.l ++ a.t.x.all)]])
theorem take_len_le {α : Type} (l : List α) (i : Nat) : (l.take i).length ≤ l.length := by rw [List.length_take]; omega
theorem Tw.alls_take {ks : List Tw} {i : Nat} {k : Tw} (h : ks[i]? = some k) : Tw.alls (ks.take (i + 1)) = Tw.alls (ks.take i) ++ k.all := by
  rw [List.take_add_one, h, Tw.alls_app]; simp [Tw.alls]
theorem Tw.alls_le {ks : List Tw} {i : Nat} {k : Tw} (h : ks[i]? = some k) : (Tw.alls (ks.take i)).length + k.all.length ≤ (Tw.alls ks).length := by
  rw [Tw.alls_at h]; simp
theorem ev_all : ∀ n x, (fun a => a.t.d) x = n → evFnX tab [(37, cAll.below (fun a => a.t.d) n)] cAll Try.f37 (body Try.f37) x := by
  rintro N ⟨⟨n, x, b, d, h, hn⟩, l, hl⟩ rfl
  have hpos := h.pos
  obtain ⟨n, rfl⟩ : ∃ m, n = m + 1 := ⟨n - 1, by omega⟩
  obtain ⟨ps, ks⟩ := x
  replace hl : l.length + (Tw.alls ks ++ ps).length ≤ 4294967296 := hl
  rw [List.length_append] at hl
  replace hn : d ≤ n + 1 := hn
  have hk4 : ks.length ≤ 4 := by cases h <;> simp_all
  have hps : ps.length ≤ 4 := by cases h <;> simp_all
  have hkid : ∀ k ∈ ks, ∃ d', d' < d ∧ Shp false d' k := by
    intro k hk
    cases h with
    | leaf => simp at hk
    | node k1 k2 k3 => exact ⟨_, Nat.lt_succ_self _, k3 k hk⟩
  conv => whnf
  intro hx
  conv => whnf
  let S0 : Nat → Sl := fun i => [(12, .lf (.int .i64 i)), (11, .lf (.int .i64 ks.length)), (10, .sl 2 none), (1, .sl 16 none), (0, .pt 0 0 0)]
  let H0 : Nat → Hp := fun i => [(16, some (.row .own 2 RngX.ds (l ++ Tw.alls (ks.take i)))), (0, some (.arr false 2 [[.sl 1 none, .sl 2 none]])), (1, some (.row .lent 2 RngX.ds ps)), (2, some (.row .lent 1 (twE n) ks))]
  refine ⟨fun m s h => ∃ i : Nat, i ≤ ks.length ∧ m = ks.length - i ∧ s = S0 i ∧ h = H0 i, ks.length, [(16, 16), (0, 0), (1, 1), (2, 2)], S0 0, H0 0,
    ⟨rfl, ⟨rfl, rfl, rfl, rfl, rfl, trivial⟩, by show _ = some _; simp [Tw.alls, H0]; rfl, rfl, rfl, rfl, trivial⟩, ⟨0, by omega, rfl, rfl, rfl⟩, ?_⟩
  rintro m _ _ ⟨i, g1, rfl, rfl, rfl⟩
  conv => whnf
  refine br2 (fun h5 => ?_) (fun h5 => ?_)
  · have hi : i < ks.length := by have := of_decide_eq_true h5; omega
    obtain ⟨k, hk⟩ := getL hi
    obtain ⟨d', hd, hks⟩ := hkid k (List.mem_of_getElem? hk)
    obtain ⟨us, is⟩ := k
    have hp := hks.pos
    obtain ⟨n', rfl⟩ : ∃ q, n = q + 1 := ⟨n - 1, by omega⟩
    have hal := Tw.alls_le hk
    conv => whnf
    refine ⟨Int.natCast_nonneg _, ltI hk, ?_⟩
    conv => whnf
    refine ex2 _ (nthI hk) ?_
    conv => whnf
    refine ⟨⟨⟨⟨n' + 1, .mk us is, false, d', hks, by omega⟩, l ++ Tw.alls (ks.take i), (show (l ++ Tw.alls (ks.take i)).length + (Tw.mk us is).all.length ≤ 4294967296 by rw [List.length_append]; omega)⟩, hd⟩, rfl, ?_⟩
    rintro _ _ ⟨rfl, rfl⟩
    conv => whnf
    refine ⟨ks.length - (i + 1), [(288, 16), (0, 0), (1, 1), (2, 2)], S0 (i + 1), H0 (i + 1), by omega, ⟨rfl, ⟨incI hi (by omega), rfl, rfl, rfl, rfl, trivial⟩, ?_, rfl, rfl, rfl, trivial⟩, i + 1, by omega, rfl, rfl, rfl⟩
    show _ = some (Ob.row Kind.own 2 RngX.ds (l ++ Tw.alls (ks.take (i + 1))))
    rw [Tw.alls_take hk, ← List.append_assoc]; rfl
  · have hi : i = ks.length := by have := of_decide_eq_false h5; omega
    subst hi
    conv => whnf
    refine ⟨fun _ => rfl, ps, rfl, ?_, ?_⟩
    · show (l ++ Tw.alls (ks.take ks.length)).length + ps.length ≤ 4294967296
      rw [List.take_length, List.length_append]; omega
    conv => whnf
    refine ⟨⟨rfl, ?_⟩⟩
    show [[D.row 2 RngX.ds (l ++ Tw.alls (ks.take ks.length) ++ ps)]] = [[D.row 2 RngX.ds (l ++ (Tw.alls ks ++ ps))]]
    rw [List.take_length, List.append_assoc]
theorem all_ok : FnOk Try.prog 37 cAll := fn_rec (fun a => a.t.d) fun n hs x hx => fnX_at tab_ok (SOk.cons hs (SOk.nil)) mixed (fn := Try.f37) (code := body Try.f37) ⟨Try.func37, rfl, by kernel_rfl, by kernel_rfl, by kernel_rfl, by kernel_rfl⟩ (ev_all n x hx)

end Go.Vm
namespace Go.Vm
open Go.Proofs
set_option maxRecDepth 100000
set_option linter.unusedVariables false
set_option linter.unusedSimpArgs false

def strB0 (s : ByteArray) : Prop := s.size ≤ maxS
def strB1 (s : ByteArray) : Prop := s.size ≤ 1048576
def intB0 (n : Int) : Prop := True
theorem ev_szStringS : ∀ x, evFnX tab [] (cSzS 1 strE1 strB0 strB1) Try.f86 (body Try.f86) x := by
  rintro ⟨l, left, h1, h2, hb0, hb⟩
  replace hb0 : l.length ≤ 9223372036854775807 := hb0
  conv => whnf
  intro h3
  conv => whnf
  have e1 : IntKind.i64.wrap (left - (l.length : Int)) = left - l.length := w64 (by omega) (by omega)
  refine br2 (fun h4 => ?_) (fun h4 => ?_)
  · conv => whnf
    exact ⟨⟨rfl, -1, rfl, by omega, (show (-1 : Int) ≤ left by omega), fun h => by omega⟩⟩
  replace h4 : decide (IntKind.i64.wrap (left - (l.length : Int)) < 0) = false := h4
  rw [e1] at h4
  have h4' := of_decide_eq_false h4
  conv => whnf
  refine ⟨fun m s h => ∃ (i : Nat) (k : Int), i ≤ l.length ∧ 0 ≤ k ∧ k ≤ left - l.length ∧ (∀ j y, j < i → l[j]? = some y → strB1 y) ∧ m = l.length - i ∧ s = [(0, .sl 0 none), (1, .lf (.int .i64 k)), (5, .lf (.int .i64 i))] ∧ h = [(0, some (.row .lent 1 strE1 l))],
    l.length, [(0, 0)], [(0, .sl 0 none), (1, .lf (.int .i64 (left - l.length))), (5, .lf (.int .i64 0))], [(0, some (.row .lent 1 strE1 l))], ⟨rfl, ⟨rfl, ?_, rfl, trivial⟩, ⟨rfl, trivial⟩⟩, ⟨0, left - l.length, by omega, by omega, by omega, fun j y h => by omega, by omega, rfl, rfl⟩, ?_⟩
  · show V.lf (.int .i64 (IntKind.i64.wrap (left - (l.length : Int)))) = _
    rw [e1]
  rintro m _ _ ⟨i, k, g1, g2, g3, g4, rfl, rfl, rfl⟩
  conv => whnf
  intro _
  conv => whnf
  refine br2 (fun h5 => ?_) (fun h5 => ?_)
  · have hi : i < l.length := by have := of_decide_eq_true h5; omega
    obtain ⟨y, hy⟩ := getL hi
    have hys : y.size ≤ 9223372036854775807 := hb y (List.mem_of_getElem? hy)
    have e2 : IntKind.i64.wrap (k - (y.size : Int)) = k - y.size := w64 (by omega) (by omega)
    conv => whnf
    refine ⟨Int.natCast_nonneg _, ltI hy, ?_⟩
    conv => whnf
    refine ex2 _ (nthI hy) ?_
    conv => whnf
    refine br2 (fun h6 => ?_) (fun h6 => ?_)
    · conv => whnf
      exact ⟨⟨rfl, -1, rfl, by omega, (show (-1 : Int) ≤ left by omega), fun h => by omega⟩⟩
    · replace h6 : decide (IntKind.i64.wrap (k - (y.size : Int)) < 0) = false := h6
      rw [e2] at h6
      have h6' := of_decide_eq_false h6
      conv => whnf
      refine ⟨l.length - (i + 1), [(0, 0)], [(0, .sl 0 none), (1, .lf (.int .i64 (k - y.size))), (5, .lf (.int .i64 ((i + 1 : Nat) : Int)))], [(0, some (.row .lent 1 strE1 l))], by omega, ⟨rfl, ⟨rfl, ?_, incI hi hb0, trivial⟩, ⟨rfl, trivial⟩⟩, i + 1, k - y.size, by omega, by omega, by omega, fun j z hj hz => ?_, rfl, rfl, rfl⟩
      · show V.lf (.int .i64 (IntKind.i64.wrap (k - (y.size : Int)))) = _
        rw [e2]
      · rcases Nat.lt_or_ge j i with h7 | h7
        · exact g4 j z h7 hz
        · obtain rfl : j = i := by omega
          rw [hy] at hz; cases hz
          unfold strB1; omega
  · have hi : i = l.length := by have := of_decide_eq_false h5; omega
    conv => whnf
    refine ⟨⟨rfl, k, rfl, by omega, (show k ≤ left by omega), fun _ => (⟨by omega, fun y hy => ?_⟩ : (l.length : Int) + k ≤ left ∧ ∀ y ∈ l, strB1 y)⟩⟩
    obtain ⟨j, hj⟩ := List.getElem?_of_mem hy
    exact g4 j y (by rw [hi]; exact (List.getElem?_eq_some_iff.1 hj).1) hj
theorem szStringS_ok : FnOk Try.prog 86 (cSzS 1 strE1 strB0 strB1) := fnOk_of fun x => fnX_at tab_ok (SOk.nil) mixed (fn := Try.f86) (code := body Try.f86) ⟨Try.func86, rfl, by kernel_rfl, by kernel_rfl, by kernel_rfl, by kernel_rfl⟩ (ev_szStringS x)
theorem ev_szIntS : ∀ x, evFnX tab [] (cSzS 1 intE1 intB0 intB0) Try.f87 (body Try.f87) x := by
  rintro ⟨l, left, h1, h2, hb0, hb⟩
  replace hb0 : l.length ≤ 9223372036854775807 := hb0
  conv => whnf
  intro h3
  conv => whnf
  have e1 : IntKind.i64.wrap (left - (l.length : Int)) = left - l.length := w64 (by omega) (by omega)
  refine br2 (fun h4 => ?_) (fun h4 => ?_)
  · conv => whnf
    exact ⟨⟨rfl, -1, rfl, by omega, (show (-1 : Int) ≤ left by omega), fun h => by omega⟩⟩
  replace h4 : decide (IntKind.i64.wrap (left - (l.length : Int)) < 0) = false := h4
  rw [e1] at h4
  have h4' := of_decide_eq_false h4
  conv => whnf
  refine ⟨⟨rfl, _, rfl, ?_, ?_, fun _ => (⟨?_, fun y _ => trivial⟩ : (l.length : Int) + IntKind.i64.wrap (left - (l.length : Int)) ≤ left ∧ ∀ y ∈ l, intB0 y)⟩⟩
  · show -1 ≤ IntKind.i64.wrap (left - (l.length : Int)); rw [e1]; omega
  · show IntKind.i64.wrap (left - (l.length : Int)) ≤ left; rw [e1]; omega
  · rw [e1]; omega
theorem szIntS_ok : FnOk Try.prog 87 (cSzS 1 intE1 intB0 intB0) := fnOk_of fun x => fnX_at tab_ok (SOk.nil) mixed (fn := Try.f87) (code := body Try.f87) ⟨Try.func87, rfl, by kernel_rfl, by kernel_rfl, by kernel_rfl, by kernel_rfl⟩ (ev_szIntS x)
theorem ev_toStringS : ∀ x, evFnX tab [] (cCopyS 1 strE1) Try.f90 (body Try.f90) x := by
  rintro ⟨l, hl⟩
  conv => whnf
  intro h1
  conv => whnf
  refine ⟨Int.natCast_nonneg _, rfl, ?_, ?_⟩
  · show (l.length : Int) ≤ (4294967296 : Nat); omega
  conv => whnf
  refine ⟨ByteArray, strE1, (⟨#[]⟩ : ByteArray), fun _ => rfl, rfl, ?_⟩
  conv => whnf
  refine ⟨fun m s h => ∃ (i : Nat) (l' : List ByteArray), i ≤ l.length ∧ l'.length = l.length ∧ (∀ j, j < i → l'[j]? = l[j]?) ∧ m = l.length - i ∧ s = [(0, .sl 0 none), (3, .sl 112 none), (4, .lf (.int .i64 i))] ∧ h = [(112, some (.row .own 1 strE1 l')), (0, some (.row .lent 1 strE1 l))],
    l.length, [(112, 112), (0, 0)], [(0, .sl 0 none), (3, .sl 112 none), (4, .lf (.int .i64 0))], [(112, some (.row .own 1 strE1 (List.replicate (l.length : Int).toNat (⟨#[]⟩ : ByteArray)))), (0, some (.row .lent 1 strE1 l))], ⟨rfl, ⟨rfl, rfl, rfl, trivial⟩, ⟨rfl, rfl, trivial⟩⟩,
    ⟨0, _, by omega, by rw [List.length_replicate, Int.toNat_natCast], fun j h => by omega, by omega, rfl, rfl⟩, ?_⟩
  rintro m _ _ ⟨i, l', g1, g2, g3, rfl, rfl, rfl⟩
  conv => whnf
  intro _
  conv => whnf
  refine br2 (fun h5 => ?_) (fun h5 => ?_)
  · have hi : i < l.length := by have := of_decide_eq_true h5; omega
    obtain ⟨y, hy⟩ : ∃ y, l[i]? = some y := ⟨_, List.getElem?_eq_getElem hi⟩
    have hy2 : nth l ((i : Nat) : Int).toNat = some y := by rw [nth_eq, Int.toNat_natCast]; exact hy
    obtain ⟨z, hz⟩ : ∃ z, l'[i]? = some z := ⟨_, List.getElem?_eq_getElem (by omega)⟩
    have hz2 : nth l' ((i : Nat) : Int).toNat = some z := by rw [nth_eq, Int.toNat_natCast]; exact hz
    conv => whnf
    refine ⟨Int.natCast_nonneg _, (show (i : Int) < (l.length : Int) by omega), ?_⟩
    conv => whnf
    refine ex2 y hy2 ?_
    conv => whnf
    refine ⟨Int.natCast_nonneg _, (show (i : Int) < (l'.length : Int) by omega), ?_⟩
    conv => whnf
    refine ex2 z hz2 ?_
    conv => whnf
    refine ⟨y, rfl, ?_⟩
    conv => whnf
    refine ⟨l.length - (i + 1), [(112, 112), (0, 0)], [(0, .sl 0 none), (3, .sl 112 none), (4, .lf (.int .i64 ((i + 1 : Nat) : Int)))], [(112, some (.row .own 1 strE1 (l'.set (i : Int).toNat y))), (0, some (.row .lent 1 strE1 l))], by omega, ⟨rfl, ⟨rfl, rfl, ?_, trivial⟩, ⟨rfl, rfl, trivial⟩⟩, i + 1, _, by omega, ?_, fun j hj => ?_, rfl, rfl, rfl⟩
    · show V.lf (.int .i64 (IntKind.i64.wrap ((i : Int) + 1))) = _
      rw [w64 (by omega) (by omega)]; rfl
    · rw [List.length_set]; exact g2
    · rw [Int.toNat_natCast, set_at (by omega)]
      split
      · rename_i e; subst e; exact hy.symm
      · exact g3 j (by omega)
  · have hi : i = l.length := by have := of_decide_eq_false h5; omega
    conv => whnf
    refine ⟨⟨rfl, ?_⟩⟩
    have : l' = l := by
      apply List.ext_getElem?
      intro j
      rcases Nat.lt_or_ge j l.length with h | h
      · exact g3 j (by omega)
      · rw [List.getElem?_eq_none (by omega), List.getElem?_eq_none h]
    show [[D.row _ strE1 l']] = [[D.row 1 strE1 l]]
    rw [this]
theorem toStringS_ok : FnOk Try.prog 90 (cCopyS 1 strE1) := fnOk_of fun x => fnX_at tab_ok (SOk.nil) mixed (fn := Try.f90) (code := body Try.f90) ⟨Try.func90, rfl, by kernel_rfl, by kernel_rfl, by kernel_rfl, by kernel_rfl⟩ (ev_toStringS x)
theorem ev_toIntS : ∀ x, evFnX tab [] (cCopyS 1 intE1) Try.f91 (body Try.f91) x := by
  rintro ⟨l, hl⟩
  conv => whnf
  intro h1
  conv => whnf
  refine ⟨Int.natCast_nonneg _, rfl, ?_, ?_⟩
  · show (l.length : Int) ≤ (4294967296 : Nat); omega
  conv => whnf
  refine ⟨Int, intE1, (0 : Int), fun _ => rfl, rfl, ?_⟩
  conv => whnf
  refine ⟨fun m s h => ∃ (i : Nat) (l' : List Int), i ≤ l.length ∧ l'.length = l.length ∧ (∀ j, j < i → l'[j]? = l[j]?) ∧ m = l.length - i ∧ s = [(0, .sl 0 none), (3, .sl 112 none), (4, .lf (.int .i64 i))] ∧ h = [(112, some (.row .own 1 intE1 l')), (0, some (.row .lent 1 intE1 l))],
    l.length, [(112, 112), (0, 0)], [(0, .sl 0 none), (3, .sl 112 none), (4, .lf (.int .i64 0))], [(112, some (.row .own 1 intE1 (List.replicate (l.length : Int).toNat (0 : Int)))), (0, some (.row .lent 1 intE1 l))], ⟨rfl, ⟨rfl, rfl, rfl, trivial⟩, ⟨rfl, rfl, trivial⟩⟩,
    ⟨0, _, by omega, by rw [List.length_replicate, Int.toNat_natCast], fun j h => by omega, by omega, rfl, rfl⟩, ?_⟩
  rintro m _ _ ⟨i, l', g1, g2, g3, rfl, rfl, rfl⟩
  conv => whnf
  intro _
  conv => whnf
  refine br2 (fun h5 => ?_) (fun h5 => ?_)
  · have hi : i < l.length := by have := of_decide_eq_true h5; omega
    obtain ⟨y, hy⟩ : ∃ y, l[i]? = some y := ⟨_, List.getElem?_eq_getElem hi⟩
    have hy2 : nth l ((i : Nat) : Int).toNat = some y := by rw [nth_eq, Int.toNat_natCast]; exact hy
    obtain ⟨z, hz⟩ : ∃ z, l'[i]? = some z := ⟨_, List.getElem?_eq_getElem (by omega)⟩
    have hz2 : nth l' ((i : Nat) : Int).toNat = some z := by rw [nth_eq, Int.toNat_natCast]; exact hz
    conv => whnf
    refine ⟨Int.natCast_nonneg _, (show (i : Int) < (l.length : Int) by omega), ?_⟩
    conv => whnf
    refine ex2 y hy2 ?_
    conv => whnf
    refine ⟨Int.natCast_nonneg _, (show (i : Int) < (l'.length : Int) by omega), ?_⟩
    conv => whnf
    refine ex2 z hz2 ?_
    conv => whnf
    refine ⟨y, rfl, ?_⟩
    conv => whnf
    refine ⟨l.length - (i + 1), [(112, 112), (0, 0)], [(0, .sl 0 none), (3, .sl 112 none), (4, .lf (.int .i64 ((i + 1 : Nat) : Int)))], [(112, some (.row .own 1 intE1 (l'.set (i : Int).toNat y))), (0, some (.row .lent 1 intE1 l))], by omega, ⟨rfl, ⟨rfl, rfl, ?_, trivial⟩, ⟨rfl, rfl, trivial⟩⟩, i + 1, _, by omega, ?_, fun j hj => ?_, rfl, rfl, rfl⟩
    · show V.lf (.int .i64 (IntKind.i64.wrap ((i : Int) + 1))) = _
      rw [w64 (by omega) (by omega)]; rfl
    · rw [List.length_set]; exact g2
    · rw [Int.toNat_natCast, set_at (by omega)]
      split
      · rename_i e; subst e; exact hy.symm
      · exact g3 j (by omega)
  · have hi : i = l.length := by have := of_decide_eq_false h5; omega
    conv => whnf
    refine ⟨⟨rfl, ?_⟩⟩
    have : l' = l := by
      apply List.ext_getElem?
      intro j
      rcases Nat.lt_or_ge j l.length with h | h
      · exact g3 j (by omega)
      · rw [List.getElem?_eq_none (by omega), List.getElem?_eq_none h]
    show [[D.row _ intE1 l']] = [[D.row 1 intE1 l]]
    rw [this]
theorem toIntS_ok : FnOk Try.prog 91 (cCopyS 1 intE1) := fnOk_of fun x => fnX_at tab_ok (SOk.nil) mixed (fn := Try.f91) (code := body Try.f91) ⟨Try.func91, rfl, by kernel_rfl, by kernel_rfl, by kernel_rfl, by kernel_rfl⟩ (ev_toIntS x)
theorem ev_eqStringS : ∀ x, evFnX tab [] (cEqS 1 strE1) Try.f99 (body Try.f99) x := by
  rintro ⟨l, m⟩
  conv => whnf
  intro h1
  conv => whnf
  intro h2
  conv => whnf
  refine br2 (fun h3 => ?_) (fun h3 => ?_)
  · conv => whnf
    refine ⟨⟨rfl, ?_⟩⟩
    show _ = [[D.lf (.bool (eqX l m))]]
    have : l ≠ m := by rintro rfl; simp at h3
    rw [eqX_no.2 this]
  have hl : l.length = m.length := by
    replace h3 : ((l.length : Int) != (m.length : Int)) = false := h3
    simp at h3; omega
  conv => whnf
  refine ⟨fun k s h => ∃ i : Nat, i ≤ l.length ∧ (∀ j, j < i → l[j]? = m[j]?) ∧ k = l.length - i ∧ s = [(0, .sl 0 none), (1, .sl 16 none), (5, .lf (.int .i64 i))] ∧ h = [(0, some (.row .lent 1 strE1 l)), (16, some (.row .lent 1 strE1 m))],
    l.length, [(0, 0), (16, 16)], [(0, .sl 0 none), (1, .sl 16 none), (5, .lf (.int .i64 0))], [(0, some (.row .lent 1 strE1 l)), (16, some (.row .lent 1 strE1 m))], ⟨rfl, ⟨rfl, rfl, rfl, trivial⟩, ⟨rfl, rfl, trivial⟩⟩, ⟨0, by omega, fun j h => by omega, by omega, rfl, rfl⟩, ?_⟩
  rintro k _ _ ⟨i, g1, g2, rfl, rfl, rfl⟩
  conv => whnf
  intro h4
  conv => whnf
  refine br2 (fun h5 => ?_) (fun h5 => ?_)
  · have hi : i < l.length := by have := of_decide_eq_true h5; omega
    obtain ⟨y, hy⟩ : ∃ y, l[i]? = some y := ⟨_, List.getElem?_eq_getElem hi⟩
    have hy2 : nth l ((i : Nat) : Int).toNat = some y := by rw [nth_eq, Int.toNat_natCast]; exact hy
    obtain ⟨z, hz⟩ : ∃ z, m[i]? = some z := ⟨_, List.getElem?_eq_getElem (by omega)⟩
    have hz2 : nth m ((i : Nat) : Int).toNat = some z := by rw [nth_eq, Int.toNat_natCast]; exact hz
    conv => whnf
    refine ⟨Int.natCast_nonneg _, (show (i : Int) < (l.length : Int) by omega), ?_⟩
    conv => whnf
    refine ex2 y hy2 ?_
    conv => whnf
    refine ⟨Int.natCast_nonneg _, (show (i : Int) < (m.length : Int) by omega), ?_⟩
    conv => whnf
    refine ex2 z hz2 ?_
    conv => whnf
    refine br2 (fun h6 => ?_) (fun h6 => ?_)
    · replace h6 : (!strEq y z) = true := h6
      rw [Bool.not_eq_true', strEq_no] at h6
      conv => whnf
      refine ⟨⟨rfl, ?_⟩⟩
      show _ = [[D.lf (.bool (eqX l m))]]
      have : l ≠ m := by rintro rfl; rw [hy] at hz; cases hz; exact h6 rfl
      rw [eqX_no.2 this]
    · replace h6 : (!strEq y z) = false := h6
      rw [Bool.not_eq_false', strEq_iff] at h6
      conv => whnf
      refine ⟨l.length - (i + 1), [(0, 0), (16, 16)], [(0, .sl 0 none), (1, .sl 16 none), (5, .lf (.int .i64 ((i + 1 : Nat) : Int)))], [(0, some (.row .lent 1 strE1 l)), (16, some (.row .lent 1 strE1 m))], by omega, ⟨rfl, ⟨rfl, rfl, ?_, trivial⟩, ⟨rfl, rfl, trivial⟩⟩, i + 1, by omega, fun j hj => ?_, rfl, rfl, rfl⟩
      · show V.lf (.int .i64 (IntKind.i64.wrap ((i : Int) + 1))) = _
        replace h4 : l.length ≤ 9223372036854775807 := h4
        rw [w64 (by omega) (by omega)]; rfl
      · rcases Nat.lt_or_ge j i with h7 | h7
        · exact g2 j h7
        · obtain rfl : j = i := by omega
          rw [hy, hz, h6]
  · have hi : i = l.length := by have := of_decide_eq_false h5; omega
    conv => whnf
    refine ⟨⟨rfl, ?_⟩⟩
    show _ = [[D.lf (.bool (eqX l m))]]
    have : l = m := by
      apply List.ext_getElem?
      intro j
      rcases Nat.lt_or_ge j l.length with h | h
      · exact g2 j (by omega)
      · rw [List.getElem?_eq_none h, List.getElem?_eq_none (by omega)]
    rw [eqX_iff.2 this]
theorem eqStringS_ok : FnOk Try.prog 99 (cEqS 1 strE1) := fnOk_of fun x => fnX_at tab_ok (SOk.nil) mixed (fn := Try.f99) (code := body Try.f99) ⟨Try.func99, rfl, by kernel_rfl, by kernel_rfl, by kernel_rfl, by kernel_rfl⟩ (ev_eqStringS x)
theorem ev_eqIntS : ∀ x, evFnX tab [] (cEqS 1 intE1) Try.f100 (body Try.f100) x := by
  rintro ⟨l, m⟩
  conv => whnf
  intro h1
  conv => whnf
  intro h2
  conv => whnf
  refine br2 (fun h3 => ?_) (fun h3 => ?_)
  · conv => whnf
    refine ⟨⟨rfl, ?_⟩⟩
    show _ = [[D.lf (.bool (eqX l m))]]
    have : l ≠ m := by rintro rfl; simp at h3
    rw [eqX_no.2 this]
  have hl : l.length = m.length := by
    replace h3 : ((l.length : Int) != (m.length : Int)) = false := h3
    simp at h3; omega
  conv => whnf
  refine ⟨fun k s h => ∃ i : Nat, i ≤ l.length ∧ (∀ j, j < i → l[j]? = m[j]?) ∧ k = l.length - i ∧ s = [(0, .sl 0 none), (1, .sl 16 none), (5, .lf (.int .i64 i))] ∧ h = [(0, some (.row .lent 1 intE1 l)), (16, some (.row .lent 1 intE1 m))],
    l.length, [(0, 0), (16, 16)], [(0, .sl 0 none), (1, .sl 16 none), (5, .lf (.int .i64 0))], [(0, some (.row .lent 1 intE1 l)), (16, some (.row .lent 1 intE1 m))], ⟨rfl, ⟨rfl, rfl, rfl, trivial⟩, ⟨rfl, rfl, trivial⟩⟩, ⟨0, by omega, fun j h => by omega, by omega, rfl, rfl⟩, ?_⟩
  rintro k _ _ ⟨i, g1, g2, rfl, rfl, rfl⟩
  conv => whnf
  intro h4
  conv => whnf
  refine br2 (fun h5 => ?_) (fun h5 => ?_)
  · have hi : i < l.length := by have := of_decide_eq_true h5; omega
    obtain ⟨y, hy⟩ : ∃ y, l[i]? = some y := ⟨_, List.getElem?_eq_getElem hi⟩
    have hy2 : nth l ((i : Nat) : Int).toNat = some y := by rw [nth_eq, Int.toNat_natCast]; exact hy
    obtain ⟨z, hz⟩ : ∃ z, m[i]? = some z := ⟨_, List.getElem?_eq_getElem (by omega)⟩
    have hz2 : nth m ((i : Nat) : Int).toNat = some z := by rw [nth_eq, Int.toNat_natCast]; exact hz
    conv => whnf
    refine ⟨Int.natCast_nonneg _, (show (i : Int) < (l.length : Int) by omega), ?_⟩
    conv => whnf
    refine ex2 y hy2 ?_
    conv => whnf
    refine ⟨Int.natCast_nonneg _, (show (i : Int) < (m.length : Int) by omega), ?_⟩
    conv => whnf
    refine ex2 z hz2 ?_
    conv => whnf
    refine br2 (fun h6 => ?_) (fun h6 => ?_)
    · replace h6 : (y != z) = true := h6
      replace h6 : y ≠ z := by simpa using h6
      conv => whnf
      refine ⟨⟨rfl, ?_⟩⟩
      show _ = [[D.lf (.bool (eqX l m))]]
      have : l ≠ m := by rintro rfl; rw [hy] at hz; cases hz; exact h6 rfl
      rw [eqX_no.2 this]
    · replace h6 : (y != z) = false := h6
      replace h6 : y = z := by simpa using h6
      conv => whnf
      refine ⟨l.length - (i + 1), [(0, 0), (16, 16)], [(0, .sl 0 none), (1, .sl 16 none), (5, .lf (.int .i64 ((i + 1 : Nat) : Int)))], [(0, some (.row .lent 1 intE1 l)), (16, some (.row .lent 1 intE1 m))], by omega, ⟨rfl, ⟨rfl, rfl, ?_, trivial⟩, ⟨rfl, rfl, trivial⟩⟩, i + 1, by omega, fun j hj => ?_, rfl, rfl, rfl⟩
      · show V.lf (.int .i64 (IntKind.i64.wrap ((i : Int) + 1))) = _
        replace h4 : l.length ≤ 9223372036854775807 := h4
        rw [w64 (by omega) (by omega)]; rfl
      · rcases Nat.lt_or_ge j i with h7 | h7
        · exact g2 j h7
        · obtain rfl : j = i := by omega
          rw [hy, hz, h6]
  · have hi : i = l.length := by have := of_decide_eq_false h5; omega
    conv => whnf
    refine ⟨⟨rfl, ?_⟩⟩
    show _ = [[D.lf (.bool (eqX l m))]]
    have : l = m := by
      apply List.ext_getElem?
      intro j
      rcases Nat.lt_or_ge j l.length with h | h
      · exact g2 j (by omega)
      · rw [List.getElem?_eq_none h, List.getElem?_eq_none (by omega)]
    rw [eqX_iff.2 this]
theorem eqIntS_ok : FnOk Try.prog 100 (cEqS 1 intE1) := fnOk_of fun x => fnX_at tab_ok (SOk.nil) mixed (fn := Try.f100) (code := body Try.f100) ⟨Try.func100, rfl, by kernel_rfl, by kernel_rfl, by kernel_rfl, by kernel_rfl⟩ (ev_eqIntS x)
def nodeB0 (n : NodeX) : Prop := (n.ps.length ≤ maxS ∧ ∀ y ∈ n.ps, rngB0 y) ∧ (n.keys.length ≤ maxS ∧ ∀ y ∈ n.keys, strB0 y) ∧ n.kids.length ≤ maxS
def nodeB (n : NodeX) : Prop := n.ps.length ≤ 1048576 ∧ n.keys.length ≤ 1048576 ∧ n.kids.length ≤ 1048576
theorem ev_szNode : ∀ x, evFnX tab [(85, (cSzS 2 RngX.ds rngB0 rngB)), (86, (cSzS 1 strE1 strB0 strB1)), (87, (cSzS 1 intE1 intB0 intB0))] (cSz NodeX.ds nodeB0 nodeB) Try.f58 (body Try.f58) x := by
  rintro ⟨x, left, h1, h2, hb1, hb2, hb3⟩
  conv => whnf
  refine ⟨⟨x.ps, left, h1, h2, hb1⟩, rfl, ?_⟩
  rintro _ _ ⟨rfl, k, rfl, k1, k2, k3⟩
  replace k2 : k ≤ left := k2
  conv => whnf
  refine br2 (fun h3 => ?_) (fun h3 => ?_)
  · conv => whnf
    exact ⟨⟨rfl, -1, rfl, by omega, (show (-1 : Int) ≤ left by omega), fun h => by omega⟩⟩
  have h3' := of_decide_eq_false h3
  have k4 : (x.ps.length : Int) + k ≤ left := (k3 (by omega)).1
  conv => whnf
  refine ⟨⟨x.keys, k, by omega, by omega, hb2⟩, rfl, ?_⟩
  rintro _ _ ⟨rfl, j, rfl, j1, j2, j3⟩
  replace j2 : j ≤ k := j2
  conv => whnf
  refine br2 (fun h4 => ?_) (fun h4 => ?_)
  · conv => whnf
    exact ⟨⟨rfl, -1, rfl, by omega, (show (-1 : Int) ≤ left by omega), fun h => by omega⟩⟩
  have h4' := of_decide_eq_false h4
  have j4 : (x.keys.length : Int) + j ≤ k := (j3 (by omega)).1
  conv => whnf
  refine ⟨⟨x.kids, j, by omega, by omega, hb3, fun _ _ => trivial⟩, rfl, ?_⟩
  rintro _ _ ⟨rfl, q, rfl, q1, q2, q3⟩
  replace q2 : q ≤ j := q2
  conv => whnf
  refine br2 (fun h5 => ?_) (fun h5 => ?_)
  · conv => whnf
    exact ⟨⟨rfl, -1, rfl, by omega, (show (-1 : Int) ≤ left by omega), fun h => by omega⟩⟩
  have h5' := of_decide_eq_false h5
  have q4 : (x.kids.length : Int) + q ≤ j := (q3 (by omega)).1
  conv => whnf
  exact ⟨⟨rfl, q, rfl, by omega, (show q ≤ left by omega), fun _ => (⟨by omega, by omega, by omega⟩ : nodeB x)⟩⟩
theorem szNode_ok : FnOk Try.prog 58 (cSz NodeX.ds nodeB0 nodeB) := fnOk_of fun x => fnX_at tab_ok (SOk.cons szPairS_ok (SOk.cons szStringS_ok (SOk.cons szIntS_ok SOk.nil))) mixed (fn := Try.f58) (code := body Try.f58) ⟨Try.func58, rfl, by kernel_rfl, by kernel_rfl, by kernel_rfl, by kernel_rfl⟩ (ev_szNode x)
theorem ev_szNodeS : ∀ x, evFnX tab [(58, (cSz NodeX.ds nodeB0 nodeB))] (cSzS 3 NodeX.ds nodeB0 nodeB) Try.f24 (body Try.f24) x := by
  rintro ⟨l, left, h1, h2, hb0, hb⟩
  replace hb0 : l.length ≤ 9223372036854775807 := hb0
  conv => whnf
  intro h3
  conv => whnf
  have e1 : IntKind.i64.wrap (left - (l.length : Int)) = left - l.length := w64 (by omega) (by omega)
  refine br2 (fun h4 => ?_) (fun h4 => ?_)
  · conv => whnf
    exact ⟨⟨rfl, -1, rfl, by omega, (show (-1 : Int) ≤ left by omega), fun h => by omega⟩⟩
  replace h4 : decide (IntKind.i64.wrap (left - (l.length : Int)) < 0) = false := h4
  rw [e1] at h4
  have h4' := of_decide_eq_false h4
  conv => whnf
  refine ⟨fun m s h => ∃ (i : Nat) (k : Int), i ≤ l.length ∧ 0 ≤ k ∧ k ≤ left - l.length ∧ (∀ j y, j < i → l[j]? = some y → nodeB y) ∧ m = l.length - i ∧ s = [(0, .sl 0 none), (1, .lf (.int .i64 k)), (5, .lf (.int .i64 i))] ∧ h = [(0, some (.row .lent 3 NodeX.ds l))],
    l.length, [(0, 0)], [(0, .sl 0 none), (1, .lf (.int .i64 (left - l.length))), (5, .lf (.int .i64 0))], [(0, some (.row .lent 3 NodeX.ds l))], ⟨rfl, ⟨rfl, ?_, rfl, trivial⟩, ⟨rfl, trivial⟩⟩, ⟨0, left - l.length, by omega, by omega, by omega, fun j y h => by omega, by omega, rfl, rfl⟩, ?_⟩
  · show V.lf (.int .i64 (IntKind.i64.wrap (left - (l.length : Int)))) = _
    rw [e1]
  rintro m _ _ ⟨i, k, g1, g2, g3, g4, rfl, rfl, rfl⟩
  conv => whnf
  intro _
  conv => whnf
  refine br2 (fun h5 => ?_) (fun h5 => ?_)
  · have hi : i < l.length := by have := of_decide_eq_true h5; omega
    obtain ⟨y, hy⟩ : ∃ y, l[i]? = some y := ⟨_, List.getElem?_eq_getElem hi⟩
    have hy2 : nth l ((i : Nat) : Int).toNat = some y := by rw [nth_eq, Int.toNat_natCast]; exact hy
    conv => whnf
    refine ⟨Int.natCast_nonneg _, (show (i : Int) < (l.length : Int) by omega), ?_⟩
    conv => whnf
    refine ex2 y hy2 ?_
    conv => whnf
    refine ⟨⟨y, k, g2, by omega, hb y (List.mem_of_getElem? hy)⟩, rfl, ?_⟩
    rintro _ _ ⟨rfl, k', rfl, k1, k2, k3⟩
    replace k2 : k' ≤ k := k2
    conv => whnf
    refine br2 (fun h6 => ?_) (fun h6 => ?_)
    · conv => whnf
      exact ⟨⟨rfl, -1, rfl, by omega, (show (-1 : Int) ≤ left by omega), fun h => by omega⟩⟩
    · have h6' := of_decide_eq_false h6
      conv => whnf
      refine ⟨l.length - (i + 1), [(0, 0)], [(0, .sl 0 none), (1, .lf (.int .i64 k')), (5, .lf (.int .i64 ((i + 1 : Nat) : Int)))], [(0, some (.row .lent 3 NodeX.ds l))], by omega, ⟨rfl, ⟨rfl, rfl, ?_, trivial⟩, ⟨rfl, trivial⟩⟩, i + 1, k', by omega, by omega, by omega, fun j z hj hz => ?_, rfl, rfl, rfl⟩
      · show V.lf (.int .i64 (IntKind.i64.wrap ((i : Int) + 1))) = _
        rw [w64 (by omega) (by omega)]; rfl
      · rcases Nat.lt_or_ge j i with h7 | h7
        · exact g4 j z h7 hz
        · obtain rfl : j = i := by omega
          rw [hy] at hz; cases hz; exact k3 (by omega)
  · have hi : i = l.length := by have := of_decide_eq_false h5; omega
    conv => whnf
    refine ⟨⟨rfl, k, rfl, by omega, (show k ≤ left by omega), fun _ => (⟨by omega, fun y hy => ?_⟩ : (l.length : Int) + k ≤ left ∧ ∀ y ∈ l, nodeB y)⟩⟩
    obtain ⟨j, hj⟩ := List.getElem?_of_mem hy
    exact g4 j y (by rw [hi]; exact (List.getElem?_eq_some_iff.1 hj).1) hj
theorem szNodeS_ok : FnOk Try.prog 24 (cSzS 3 NodeX.ds nodeB0 nodeB) := fnOk_of fun x => fnX_at tab_ok (SOk.cons szNode_ok SOk.nil) mixed (fn := Try.f24) (code := body Try.f24) ⟨Try.func24, rfl, by kernel_rfl, by kernel_rfl, by kernel_rfl, by kernel_rfl⟩ (ev_szNodeS x)
def nodesB0 (l : List NodeX) : Prop := l.length ≤ maxS ∧ ∀ y ∈ l, nodeB0 y
def nodesB (l : List NodeX) : Prop := l.length ≤ 1048576 ∧ ∀ y ∈ l, nodeB y
def treeDs (l : List NodeX) : List D := [.row 3 NodeX.ds l]
theorem ev_szTree : ∀ x, evFnX tab [(24, (cSzS 3 NodeX.ds nodeB0 nodeB))] (cSz treeDs nodesB0 nodesB) Try.f6 (body Try.f6) x := by
  rintro ⟨x, left, h1, h2, hb⟩
  conv => whnf
  refine ⟨⟨x, left, h1, h2, hb⟩, rfl, ?_⟩
  rintro _ _ ⟨rfl, k, rfl, k1, k2, k3⟩
  replace k2 : k ≤ left := k2
  conv => whnf
  refine br2 (fun h3 => ?_) (fun h3 => ?_)
  · conv => whnf
    exact ⟨⟨rfl, -1, rfl, by omega, (show (-1 : Int) ≤ left by omega), fun h => by omega⟩⟩
  have h3' := of_decide_eq_false h3
  obtain ⟨k4, k5⟩ := k3 (by omega)
  replace k4 : (x.length : Int) + k ≤ left := k4
  conv => whnf
  exact ⟨⟨rfl, k, rfl, k1, k2, fun _ => (⟨by omega, k5⟩ : nodesB x)⟩⟩
theorem szTree_ok : FnOk Try.prog 6 (cSz treeDs nodesB0 nodesB) := fnOk_of fun x => fnX_at tab_ok (SOk.cons szNodeS_ok SOk.nil) mixed (fn := Try.f6) (code := body Try.f6) ⟨Try.func6, rfl, by kernel_rfl, by kernel_rfl, by kernel_rfl, by kernel_rfl⟩ (ev_szTree x)
structure NodeY where
  x : NodeX
  h : nodeB x
theorem ev_toNode : ∀ x, evFnX tab [(89, (cCopyS 2 RngX.ds)), (90, (cCopyS 1 strE1)), (91, (cCopyS 1 intE1))] (pureC NodeY [(.rd, true)] [true] (fun x => [x.x.ds]) (fun x => [x.x.ds])) Try.f67 (body Try.f67) x := by
  rintro ⟨x, h1, h2, h3⟩
  conv => whnf
  refine ⟨⟨x.ps, h1⟩, rfl, ?_⟩
  rintro _ _ ⟨rfl, rfl⟩
  conv => whnf
  refine ⟨⟨x.keys, h2⟩, rfl, ?_⟩
  rintro _ _ ⟨rfl, rfl⟩
  conv => whnf
  refine ⟨⟨x.kids, h3⟩, rfl, ?_⟩
  rintro _ _ ⟨rfl, rfl⟩
  conv => whnf
  exact ⟨⟨rfl, rfl⟩⟩
theorem toNode_ok : FnOk Try.prog 67 (pureC NodeY [(.rd, true)] [true] (fun x => [x.x.ds]) (fun x => [x.x.ds])) := fnOk_of fun x => fnX_at tab_ok (SOk.cons toPairS_ok (SOk.cons toStringS_ok (SOk.cons toIntS_ok SOk.nil))) mixed (fn := Try.f67) (code := body Try.f67) ⟨Try.func67, rfl, by kernel_rfl, by kernel_rfl, by kernel_rfl, by kernel_rfl⟩ (ev_toNode x)
theorem ev_eqNode : ∀ x, evFnX tab [(17, (cEqS 2 RngX.ds)), (99, (cEqS 1 strE1)), (100, (cEqS 1 intE1))] (cEq NodeX.ds) Try.f73 (body Try.f73) x := by
  rintro ⟨⟨a, b, c⟩, ⟨d, e, f⟩⟩
  repeat' ((conv => whnf); first | refine br2 (fun h => ?_) (fun h => ?_) | (refine ⟨(a, d), rfl, ?_⟩; rintro _ _ ⟨rfl, rfl⟩) | (refine ⟨(b, e), rfl, ?_⟩; rintro _ _ ⟨rfl, rfl⟩) | (refine ⟨(c, f), rfl, ?_⟩; rintro _ _ ⟨rfl, rfl⟩))
  all_goals (conv => whnf)
  all_goals refine ⟨⟨rfl, ?_⟩⟩
  all_goals show _ = [[D.lf (.bool (eqX (⟨a, b, c⟩ : NodeX) ⟨d, e, f⟩))]]
  all_goals congr 4
  all_goals rw [eq_comm]
  all_goals simp_all [eqX_iff, eqX_no]
theorem eqNode_ok : FnOk Try.prog 73 (cEq NodeX.ds) := fnOk_of fun x => fnX_at tab_ok (SOk.cons eqPairS_ok (SOk.cons eqStringS_ok (SOk.cons eqIntS_ok SOk.nil))) mixed (fn := Try.f73) (code := body Try.f73) ⟨Try.func73, rfl, by kernel_rfl, by kernel_rfl, by kernel_rfl, by kernel_rfl⟩ (ev_eqNode x)
theorem ev_eqNodeS : ∀ x, evFnX tab [(73, (cEq NodeX.ds))] (cEqS 3 NodeX.ds) Try.f39 (body Try.f39) x := by
  rintro ⟨l, m⟩
  conv => whnf
  intro h1
  conv => whnf
  intro h2
  conv => whnf
  refine br2 (fun h3 => ?_) (fun h3 => ?_)
  · conv => whnf
    refine ⟨⟨rfl, ?_⟩⟩
    show _ = [[D.lf (.bool (eqX l m))]]
    have : l ≠ m := by rintro rfl; simp at h3
    rw [eqX_no.2 this]
  have hl : l.length = m.length := by
    replace h3 : ((l.length : Int) != (m.length : Int)) = false := h3
    simp at h3; omega
  conv => whnf
  refine ⟨fun k s h => ∃ i : Nat, i ≤ l.length ∧ (∀ j, j < i → l[j]? = m[j]?) ∧ k = l.length - i ∧ s = [(0, .sl 0 none), (1, .sl 16 none), (5, .lf (.int .i64 i))] ∧ h = [(0, some (.row .lent 3 NodeX.ds l)), (16, some (.row .lent 3 NodeX.ds m))],
    l.length, [(0, 0), (16, 16)], [(0, .sl 0 none), (1, .sl 16 none), (5, .lf (.int .i64 0))], [(0, some (.row .lent 3 NodeX.ds l)), (16, some (.row .lent 3 NodeX.ds m))], ⟨rfl, ⟨rfl, rfl, rfl, trivial⟩, ⟨rfl, rfl, trivial⟩⟩, ⟨0, by omega, fun j h => by omega, by omega, rfl, rfl⟩, ?_⟩
  rintro k _ _ ⟨i, g1, g2, rfl, rfl, rfl⟩
  conv => whnf
  intro h4
  conv => whnf
  refine br2 (fun h5 => ?_) (fun h5 => ?_)
  · have hi : i < l.length := by have := of_decide_eq_true h5; omega
    obtain ⟨y, hy⟩ : ∃ y, l[i]? = some y := ⟨_, List.getElem?_eq_getElem hi⟩
    have hy2 : nth l ((i : Nat) : Int).toNat = some y := by rw [nth_eq, Int.toNat_natCast]; exact hy
    obtain ⟨z, hz⟩ : ∃ z, m[i]? = some z := ⟨_, List.getElem?_eq_getElem (by omega)⟩
    have hz2 : nth m ((i : Nat) : Int).toNat = some z := by rw [nth_eq, Int.toNat_natCast]; exact hz
    conv => whnf
    refine ⟨Int.natCast_nonneg _, (show (i : Int) < (l.length : Int) by omega), ?_⟩
    conv => whnf
    refine ex2 y hy2 ?_
    conv => whnf
    refine ⟨Int.natCast_nonneg _, (show (i : Int) < (m.length : Int) by omega), ?_⟩
    conv => whnf
    refine ex2 z hz2 ?_
    conv => whnf
    refine ⟨(y, z), rfl, ?_⟩
    rintro _ _ ⟨rfl, rfl⟩
    conv => whnf
    refine br2 (fun h6 => ?_) (fun h6 => ?_)
    · replace h6 : (!eqX y z) = true := h6
      rw [Bool.not_eq_true', eqX_no] at h6
      conv => whnf
      refine ⟨⟨rfl, ?_⟩⟩
      show _ = [[D.lf (.bool (eqX l m))]]
      have : l ≠ m := by rintro rfl; rw [hy] at hz; cases hz; exact h6 rfl
      rw [eqX_no.2 this]
    · replace h6 : (!eqX y z) = false := h6
      rw [Bool.not_eq_false', eqX_iff] at h6
      conv => whnf
      refine ⟨l.length - (i + 1), [(0, 0), (16, 16)], [(0, .sl 0 none), (1, .sl 16 none), (5, .lf (.int .i64 ((i + 1 : Nat) : Int)))], [(0, some (.row .lent 3 NodeX.ds l)), (16, some (.row .lent 3 NodeX.ds m))], by omega, ⟨rfl, ⟨rfl, rfl, ?_, trivial⟩, ⟨rfl, rfl, trivial⟩⟩, i + 1, by omega, fun j hj => ?_, rfl, rfl, rfl⟩
      · show V.lf (.int .i64 (IntKind.i64.wrap ((i : Int) + 1))) = _
        replace h4 : l.length ≤ 9223372036854775807 := h4
        rw [w64 (by omega) (by omega)]; rfl
      · rcases Nat.lt_or_ge j i with h7 | h7
        · exact g2 j h7
        · obtain rfl : j = i := by omega
          rw [hy, hz, h6]
  · have hi : i = l.length := by have := of_decide_eq_false h5; omega
    conv => whnf
    refine ⟨⟨rfl, ?_⟩⟩
    show _ = [[D.lf (.bool (eqX l m))]]
    have : l = m := by
      apply List.ext_getElem?
      intro j
      rcases Nat.lt_or_ge j l.length with h | h
      · exact g2 j (by omega)
      · rw [List.getElem?_eq_none h, List.getElem?_eq_none (by omega)]
    rw [eqX_iff.2 this]
theorem eqNodeS_ok : FnOk Try.prog 39 (cEqS 3 NodeX.ds) := fnOk_of fun x => fnX_at tab_ok (SOk.cons eqNode_ok SOk.nil) mixed (fn := Try.f39) (code := body Try.f39) ⟨Try.func39, rfl, by kernel_rfl, by kernel_rfl, by kernel_rfl, by kernel_rfl⟩ (ev_eqNodeS x)
theorem ev_eqTree : ∀ x, evFnX tab [(39, (cEqS 3 NodeX.ds))] (cEq treeDs) Try.f10 (body Try.f10) x := by
  rintro ⟨a, b⟩
  conv => whnf
  refine ⟨(a, b), rfl, ?_⟩
  rintro _ _ ⟨rfl, rfl⟩
  conv => whnf
  refine br2 (fun h => ?_) (fun h => ?_)
  · replace h : (!eqX a b) = true := h
    rw [Bool.not_eq_true'] at h
    conv => whnf
    refine ⟨⟨rfl, ?_⟩⟩
    show [[D.lf (.bool false)]] = [[D.lf (.bool (eqX a b))]]
    rw [h]
  · replace h : (!eqX a b) = false := h
    rw [Bool.not_eq_false'] at h
    conv => whnf
    refine ⟨⟨rfl, ?_⟩⟩
    show [[D.lf (.bool true)]] = [[D.lf (.bool (eqX a b))]]
    rw [h]
theorem eqTree_ok : FnOk Try.prog 10 (cEq treeDs) := fnOk_of fun x => fnX_at tab_ok (SOk.cons eqNodeS_ok SOk.nil) mixed (fn := Try.f10) (code := body Try.f10) ⟨Try.func10, rfl, by kernel_rfl, by kernel_rfl, by kernel_rfl, by kernel_rfl⟩ (ev_eqTree x)
end Go.Vm
namespace Go.Vm
open Go.Proofs
set_option maxRecDepth 100000
set_option linter.unusedVariables false
set_option linter.unusedSimpArgs false

/-- A number's digits. -/
def mkL (n : Nat) : List UInt8 := if h : n = 0 then [] else mkL (n / 10) ++ [UInt8.ofNat (48 + n % 10)]
theorem mkL_zero : mkL 0 = [] := by rw [mkL]; simp
theorem mkL_pos {n : Nat} (h : n ≠ 0) : mkL n = mkL (n / 10) ++ [UInt8.ofNat (48 + n % 10)] := by rw [mkL, dif_neg h]
theorem mkL_len {n k : Nat} (h : n < 10 ^ k) : (mkL n).length ≤ k := by
  induction k generalizing n with
  | zero => obtain rfl : n = 0 := by simpa using h
            rw [mkL_zero]; simp
  | succ k ih =>
    by_cases h0 : n = 0
    · subst h0; rw [mkL_zero]; simp
    · rw [mkL_pos h0]
      have := ih (n := n / 10) (by rw [Nat.pow_succ] at h; exact Nat.div_lt_of_lt_mul (by omega))
      simp; omega
/-- The text of a mark. -/
def mkT (n : Int) : ByteArray := if n ≤ 0 then ⟨#[109, 48]⟩ else ofB (109 :: mkL n.toNat)
structure MkX where
  n : Int
  h1 : -9223372036854775808 ≤ n
  h2 : n ≤ 9223372036854775807
theorem ev_markText : ∀ x, evFnX tab [] (pureC MkX [(.rd, false)] [false] (fun x => [[.lf (.int .i64 x.n)]]) (fun x => [[.lf (.string (mkT x.n))]])) Try.f53 (body Try.f53) x := by
  rintro ⟨n, h1, h2⟩
  conv => whnf
  refine br2 (fun h3 => ?_) (fun h3 => ?_)
  · have h3' : n ≤ 0 := of_decide_eq_true h3
    conv => whnf
    refine ⟨⟨rfl, ?_⟩⟩
    show _ = [[D.lf (.string (mkT n))]]
    rw [mkT, if_pos h3']
  have h3' : ¬ n ≤ 0 := of_decide_eq_false h3
  obtain ⟨k, rfl⟩ : ∃ k : Nat, n = k := ⟨n.toNat, by omega⟩
  conv => whnf
  refine ⟨fun m s h => ∃ (j : Nat) (t : ByteArray), mkL k = mkL j ++ bs t ∧ j ≤ k ∧ m = j ∧ s = [(0, .lf (.int .i64 j)), (3, .lf (.string t))] ∧ h = [],
    k, [], [(0, .lf (.int .i64 k)), (3, .lf (.string ⟨#[]⟩))], [], ⟨rfl, ⟨rfl, rfl, trivial⟩, trivial⟩, ⟨k, ⟨#[]⟩, by simp [bs], Nat.le_refl _, rfl, rfl, rfl⟩, ?_⟩
  rintro m _ _ ⟨j, t, g1, g2, rfl, rfl, rfl⟩
  have hlen := congrArg List.length g1
  have hle : (mkL k).length ≤ 19 := mkL_len (by omega)
  rw [List.length_append, bs_len] at hlen
  conv => whnf
  refine br2 (fun h4 => ?_) (fun h4 => ?_)
  · have h4' : m ≠ 0 := by have := of_decide_eq_true h4; omega
    have e1 : IntKind.u8.wrap (IntKind.i64.wrap (48 + (m : Int).tmod 10)) = ((UInt8.ofNat (48 + m % 10)).toNat : Int) := u8_of (k := 48 + m % 10) (by rw [tmod10, w64 (by omega) (by omega)]; omega) (by omega)
    conv => whnf
    refine ⟨[UInt8.ofNat (48 + m % 10)], by
      show [[D.lf (.int .u8 (IntKind.u8.wrap (IntKind.i64.wrap (48 + (m : Int).tmod 10))))]] = _
      rw [e1]; rfl, ?_⟩
    conv => whnf
    refine ⟨?_, ?_⟩
    · show (ByteArray.mk [UInt8.ofNat (48 + m % 10)].toArray).size + t.size ≤ 4294967296
      show 1 + t.size ≤ 4294967296
      omega
    conv => whnf
    rw [mkL_pos h4'] at g1
    refine ⟨m / 10, [], [(0, .lf (.int .i64 (m / 10 : Nat))), (3, .lf (.string (⟨[UInt8.ofNat (48 + m % 10)].toArray⟩ ++ t)))], [], by omega, ⟨rfl, ⟨?_, rfl, trivial⟩, trivial⟩, m / 10, _, ?_, by omega, rfl, rfl, rfl⟩
    · show V.lf (.int .i64 (IntKind.i64.wrap ((m : Int).tdiv 10))) = _
      rw [tdiv10, w64 (by omega) (by omega)]
    · rw [g1]; simp [bs]
  · have h4' : m = 0 := by have := of_decide_eq_false h4; omega
    subst h4'
    rw [mkL_zero, List.nil_append] at g1
    conv => whnf
    refine ⟨?_, ?_⟩
    · show 1 + t.size ≤ 4294967296
      omega
    conv => whnf
    refine ⟨⟨rfl, ?_⟩⟩
    show [[D.lf (.string (⟨#[109]⟩ ++ t))]] = [[D.lf (.string (mkT (k : Int)))]]
    rw [mkT, if_neg h3', Int.toNat_natCast, g1]
    congr 4
theorem markText_ok : FnOk Try.prog 53 (pureC MkX [(.rd, false)] [false] (fun x => [[.lf (.int .i64 x.n)]]) (fun x => [[.lf (.string (mkT x.n))]])) := fnOk_of fun x => fnX_at tab_ok (SOk.nil) mixed (fn := Try.f53) (code := body Try.f53) ⟨Try.func53, rfl, by kernel_rfl, by kernel_rfl, by kernel_rfl, by kernel_rfl⟩ (ev_markText x)

structure MarkX (α : Type) where
  x : α
  k : Int
  h1 : 0 ≤ k
  h2 : k ≤ 1125899906842624
/-- What marks leave behind: the outs, the next number. -/
def cMarkS {X : Type} (sz : Nat) (ds : X → List D) (mark : Int → Nat → List X) (w : Int) : Con :=
  { X := { x : MarkX (List X) // x.x.length ≤ 1048576 }, params := [(.mut, false), (.rd, false)], res := [false], resOwn := true, ins := fun x => [[.row sz ds x.1.x], [.lf (.int .i64 x.1.k)]],
    post := fun x outs r => outs = [[.row sz ds (mark x.1.k x.1.x.length)]] ∧ r = [[.lf (.int .i64 (x.1.k + w * x.1.x.length))]] }
theorem nth_setI {β : Type} {l : List β} {j : Nat} {y : β} (h : j < l.length) : nth (l.set j y) ((j : Nat) : Int).toNat = some y := by
  rw [nth_eq, Int.toNat_natCast, List.getElem?_set_self h]
end Go.Vm
namespace Go.Vm
open Go.Proofs
set_option maxRecDepth 100000
set_option linter.unusedVariables false
set_option linter.unusedSimpArgs false

def pairAt (k : Int) : RngX := ⟨mkT k, mkT (k + 1)⟩
def markP (k : Int) (n : Nat) : List RngX := (List.range n).map fun i : Nat => pairAt (k + 2 * (i : Int))
theorem markP_len (k : Int) (n : Nat) : (markP k n).length = n := by simp [markP]
theorem markP_get {k : Int} {n i : Nat} (h : i < n) : (markP k n)[i]? = some (pairAt (k + 2 * (i : Int))) := by simp [markP, h]
theorem eq_markP {l : List RngX} {k : Int} {n : Nat} (h : l.length = n) (h2 : ∀ j, j < n → l[j]? = some (pairAt (k + 2 * (j : Int)))) : l = markP k n := by
  apply List.ext_getElem?
  intro j
  by_cases hj : j < n
  · rw [h2 j hj, markP_get hj]
  · rw [List.getElem?_eq_none (by omega), List.getElem?_eq_none (by rw [markP_len]; omega)]
theorem ev_markPairS : ∀ x, evFnX tab [(53, (pureC MkX [(.rd, false)] [false] (fun x => [[.lf (.int .i64 x.n)]]) (fun x => [[.lf (.string (mkT x.n))]])))] (cMarkS 2 RngX.ds markP 2) Try.f20 (body Try.f20) x := by
  rintro ⟨⟨l, k, h1, h2⟩, hl⟩
  replace hl : l.length ≤ 1048576 := hl
  conv => whnf
  refine ⟨fun m s h => ∃ (i : Nat) (l' : List RngX), i ≤ l.length ∧ l'.length = l.length ∧ (∀ j, j < i → l'[j]? = some (pairAt (k + 2 * (j : Int)))) ∧ m = l.length - i ∧ s = [(0, .sl 0 none), (1, .lf (.int .i64 (k + 2 * (i : Int)))), (5, .lf (.int .i64 i)), (1000000, .sl 0 none)] ∧ h = [(0, some (.row .own 2 RngX.ds l'))],
    l.length, [(0, 0)], [(0, .sl 0 none), (1, .lf (.int .i64 k)), (5, .lf (.int .i64 0)), (1000000, .sl 0 none)], [(0, some (.row .own 2 RngX.ds l))], ⟨rfl, ⟨rfl, rfl, rfl, rfl, trivial⟩, rfl, trivial⟩, ⟨0, l, by omega, rfl, fun j h => by omega, by omega, by simp, rfl⟩, ?_⟩
  rintro m _ _ ⟨i, l', g1, g2, g3, rfl, rfl, rfl⟩
  conv => whnf
  intro _
  conv => whnf
  refine br2 (fun h5 => ?_) (fun h5 => ?_)
  · have hi : i < l.length := by have := of_decide_eq_true h5; omega
    have hil : i < l'.length := by omega
    obtain ⟨y, hy⟩ := getL (l := l') (j := i) hil
    have hk0 : 0 ≤ k + 2 * (i : Int) ∧ k + 2 * (i : Int) ≤ 1125899920000000 := by omega
    have hk1 : k + 2 * ((i + 1 : Nat) : Int) = k + 2 * (i : Int) + 2 := by omega
    have g3' : ∀ z, z = pairAt (k + 2 * (i : Int)) → ∀ j, j < i + 1 → (l'.set i z)[j]? = some (pairAt (k + 2 * (j : Int))) := by
      rintro z rfl j hj
      rw [List.getElem?_set]
      by_cases e : i = j
      · subst e; rw [if_pos rfl, if_pos (by omega)]
      · rw [if_neg e]; exact g3 j (by omega)
    generalize hq : k + 2 * (i : Int) = q at *
    obtain ⟨hq0, hq1⟩ := hk0
    let q1 : Int := IntKind.i64.wrap (q + 1)
    have w1 : q1 = q + 1 := w64 (by omega) (by omega)
    have w2 : IntKind.i64.wrap (q1 + 1) = q + 2 := by rw [w1, w64 (by omega) (by omega)]; omega
    conv => whnf
    refine ⟨⟨q, by omega, by omega⟩, rfl, ?_⟩
    rintro _ _ ⟨rfl, rfl⟩
    conv => whnf
    refine ⟨Int.natCast_nonneg _, (show (i : Int) < (l'.length : Int) by omega), ?_⟩
    conv => whnf
    refine ex2 y (nthI hy) ?_
    conv => whnf
    refine ⟨⟨mkT q, y.hi⟩, rfl, ?_⟩
    conv => whnf
    refine ⟨⟨q1, by omega, by omega⟩, rfl, ?_⟩
    rintro _ _ ⟨rfl, rfl⟩
    conv => whnf
    refine ⟨Int.natCast_nonneg _, Int.ofNat_lt.2 (by simp only [List.length_set]; exact hil), ?_⟩
    conv => whnf
    refine ex2 _ (nth_setI hil) ?_
    conv => whnf
    refine ⟨⟨mkT q, mkT q1⟩, rfl, ?_⟩
    conv => whnf
    refine ⟨l.length - (i + 1), [(0, 0)], [(0, .sl 0 none), (1, .lf (.int .i64 (k + 2 * ((i + 1 : Nat) : Int)))), (5, .lf (.int .i64 ((i + 1 : Nat) : Int))), (1000000, .sl 0 none)], [(0, some (.row .own 2 RngX.ds (l'.set i (pairAt q))))], by omega, ⟨rfl, ⟨rfl, ?_, ?_, rfl, trivial⟩, ?_, trivial⟩, i + 1, _, by omega, by simp; omega, g3' _ rfl, rfl, rfl, rfl⟩
    · show V.lf (.int .i64 (IntKind.i64.wrap (q1 + 1))) = _
      rw [w2, hk1]
    · show V.lf (.int .i64 (IntKind.i64.wrap ((i : Int) + 1))) = _
      rw [w64 (by omega) (by omega)]; rfl
    · show some (Ob.row .own 2 RngX.ds ((l'.set i _).set i (⟨mkT q, mkT q1⟩ : RngX))) = _
      rw [w1, List.set_set]; rfl
  · have hi : i = l.length := by have := of_decide_eq_false h5; omega
    subst hi
    have e1 := eq_markP g2 g3
    conv => whnf
    refine ⟨⟨?_, rfl⟩⟩
    show [[D.row 2 RngX.ds l']] = _
    rw [e1]
theorem markPairS_ok : FnOk Try.prog 20 (cMarkS 2 RngX.ds markP 2) := fnOk_of fun x => fnX_at tab_ok (SOk.cons markText_ok SOk.nil) mixed (fn := Try.f20) (code := body Try.f20) ⟨Try.func20, rfl, by kernel_rfl, by kernel_rfl, by kernel_rfl, by kernel_rfl⟩ (ev_markPairS x)
end Go.Vm
namespace Go.Vm
open Go.Proofs
set_option maxRecDepth 100000
set_option linter.unusedVariables false
set_option linter.unusedSimpArgs false

structure NodesY where
  l : List NodeX
  hl : l.length ≤ 1048576
  h : ∀ n ∈ l, nodeB n
/-- A node that may not be there yet. -/
def nodeO : Option NodeX → List D
  | none => [.lf (.slice none 0 0), .lf (.slice none 0 0), .lf (.slice none 0 0)]
  | some n => n.ds
theorem nodeO_len (o : Option NodeX) : (nodeO o).length = 3 := by cases o <;> rfl
theorem ev_toNodeS : ∀ x, evFnX tab [(1000006, cGh), (67, (pureC NodeY [(.rd, true)] [true] (fun x => [x.x.ds]) (fun x => [x.x.ds])))] (pureC NodesY [(.rd, false)] [false] (fun x => [[.row 3 NodeX.ds x.l]]) (fun x => [[.row 3 NodeX.ds x.l]])) Try.f32 (body Try.f32) x := by
  rintro ⟨l, hl, hb⟩
  replace hl : l.length ≤ 1048576 := hl
  conv => whnf
  intro h1
  conv => whnf
  refine ⟨Int.natCast_nonneg _, rfl, ?_, ?_⟩
  · show (l.length : Int) ≤ (4294967296 : Nat); omega
  conv => whnf
  refine ⟨Option NodeX, nodeO, none, nodeO_len, rfl, ?_⟩
  conv => whnf
  refine ⟨fun m s h => ∃ (i : Nat) (l' : List (Option NodeX)), i ≤ l.length ∧ l'.length = l.length ∧ (∀ j y, j < i → l[j]? = some y → l'[j]? = some (some y)) ∧ m = l.length - i ∧ s = [(0, .sl 0 none), (3, .sl 112 none), (4, .lf (.int .i64 i))] ∧ h = [(112, some (.row .own 3 nodeO l')), (0, some (.row .lent 3 NodeX.ds l))],
    l.length, [(112, 112), (0, 0)], [(0, .sl 0 none), (3, .sl 112 none), (4, .lf (.int .i64 0))], [(112, some (.row .own 3 nodeO (List.replicate (l.length : Int).toNat none))), (0, some (.row .lent 3 NodeX.ds l))], ⟨rfl, ⟨rfl, rfl, rfl, trivial⟩, ⟨rfl, rfl, trivial⟩⟩,
    ⟨0, _, by omega, by rw [List.length_replicate, Int.toNat_natCast], fun j y h => by omega, by omega, rfl, rfl⟩, ?_⟩
  rintro m _ _ ⟨i, l', g1, g2, g3, rfl, rfl, rfl⟩
  conv => whnf
  intro _
  conv => whnf
  refine br2 (fun h5 => ?_) (fun h5 => ?_)
  · have hi : i < l.length := by have := of_decide_eq_true h5; omega
    obtain ⟨y, hy⟩ := getL hi
    obtain ⟨z, hz⟩ := getL (l := l') (j := i) (by omega)
    conv => whnf
    refine ⟨Int.natCast_nonneg _, ltI hy, ?_⟩
    conv => whnf
    refine ex2 _ (nthI hy) ?_
    conv => whnf
    refine ⟨⟨y, hb y (List.mem_of_getElem? hy)⟩, rfl, ?_⟩
    rintro _ _ ⟨rfl, rfl⟩
    conv => whnf
    have back : ∀ {s' : Sl} {h' : Hp}, Le [(112, 112), (0, 0)] [(0, .sl 0 none), (3, .sl 112 none), (4, .lf (.int .i64 ((i + 1 : Nat) : Int)))] [(112, some (.row .own 3 nodeO (l'.set i (some y)))), (0, some (.row .lent 3 NodeX.ds l))] s' h' →
        ∃ m' ρ s'' h'', m' < l.length - i ∧ Le ρ s'' h'' s' h' ∧ ∃ (i : Nat) (l' : List (Option NodeX)), i ≤ l.length ∧ l'.length = l.length ∧ (∀ j y, j < i → l[j]? = some y → l'[j]? = some (some y)) ∧ m' = l.length - i ∧ s'' = [(0, .sl 0 none), (3, .sl 112 none), (4, .lf (.int .i64 i))] ∧ h'' = [(112, some (.row .own 3 nodeO l')), (0, some (.row .lent 3 NodeX.ds l))] := fun hle =>
      ⟨l.length - (i + 1), _, _, _, by omega, hle, i + 1, l'.set i (some y), by omega, by simpa using g2, fun j w hj hw => by
        rw [List.getElem?_set]
        by_cases e : i = j
        · subst e; rw [if_pos rfl, if_pos (by omega)]; rw [hy] at hw; rw [Option.some.inj hw]
        · rw [if_neg e]; exact g3 j w (by omega) hw, rfl, rfl, rfl⟩
    rcases z with _ | z
    all_goals
      refine ⟨Int.natCast_nonneg _, ltI hz, ?_⟩
      conv => whnf
      refine ex2 _ (nthI hz) ?_
      conv => whnf
      refine ⟨some y, rfl, ?_⟩
      conv => whnf
      exact back ⟨rfl, ⟨rfl, rfl, incI hi (by omega), trivial⟩, by rfl, rfl, trivial⟩
  · have hi : i = l.length := by have := of_decide_eq_false h5; omega
    subst hi
    conv => whnf
    refine ⟨[.enc 112], ?_⟩
    conv => whnf
    refine ⟨NodeX, NodeX.ds, l, fun _ => rfl, ?_, ?_⟩
    · apply List.ext_getElem?
      intro j
      rw [List.getElem?_map, List.getElem?_map]
      rcases Nat.lt_or_ge j l.length with h | h
      · obtain ⟨y, hy⟩ := getL h
        rw [g3 j y h hy, hy]; rfl
      · rw [List.getElem?_eq_none (by omega), List.getElem?_eq_none (by omega)]; rfl
    conv => whnf
    exact ⟨⟨rfl, rfl⟩⟩
theorem toNodeS_ok : FnOk Try.prog 32 (pureC NodesY [(.rd, false)] [false] (fun x => [[.row 3 NodeX.ds x.l]]) (fun x => [[.row 3 NodeX.ds x.l]])) := fnOk_of fun x => fnX_at tab_ok (SOk.cons gh_ok (SOk.cons toNode_ok SOk.nil)) mixed (fn := Try.f32) (code := body Try.f32) ⟨Try.func32, rfl, by kernel_rfl, by kernel_rfl, by kernel_rfl, by kernel_rfl⟩ (ev_toNodeS x)
theorem ev_toTree : ∀ x, evFnX tab [(32, (pureC NodesY [(.rd, false)] [false] (fun x => [[.row 3 NodeX.ds x.l]]) (fun x => [[.row 3 NodeX.ds x.l]])))] (pureC NodesY [(.rd, true)] [true] (fun x => [treeDs x.l]) (fun x => [treeDs x.l])) Try.f8 (body Try.f8) x := by
  rintro ⟨l, hl, hb⟩
  conv => whnf
  refine ⟨⟨l, hl, hb⟩, rfl, ?_⟩
  rintro _ _ ⟨rfl, rfl⟩
  conv => whnf
  exact ⟨⟨rfl, rfl⟩⟩
theorem toTree_ok : FnOk Try.prog 8 (pureC NodesY [(.rd, true)] [true] (fun x => [treeDs x.l]) (fun x => [treeDs x.l])) := fnOk_of fun x => fnX_at tab_ok (SOk.cons toNodeS_ok SOk.nil) mixed (fn := Try.f8) (code := body Try.f8) ⟨Try.func8, rfl, by kernel_rfl, by kernel_rfl, by kernel_rfl, by kernel_rfl⟩ (ev_toTree x)
/-! Marks -/
def markS (k : Int) (n : Nat) : List ByteArray := (List.range n).map fun i : Nat => mkT (k + (i : Int))
theorem markS_len (k : Int) (n : Nat) : (markS k n).length = n := by simp [markS]
theorem markS_get {k : Int} {n i : Nat} (h : i < n) : (markS k n)[i]? = some (mkT (k + (i : Int))) := by simp [markS, h]
def markI (k : Int) (n : Nat) : List Int := (List.range n).map fun i : Nat => k + (i : Int)
theorem markI_len (k : Int) (n : Nat) : (markI k n).length = n := by simp [markI]
theorem markI_get {k : Int} {n i : Nat} (h : i < n) : (markI k n)[i]? = some (k + (i : Int)) := by simp [markI, h]
theorem eq_mark {α : Type} {l m : List α} {n : Nat} (h : l.length = n) (hm : m.length = n) (h2 : ∀ j, j < n → l[j]? = m[j]?) : l = m := by
  apply List.ext_getElem?
  intro j
  by_cases hj : j < n
  · exact h2 j hj
  · rw [List.getElem?_eq_none (by omega), List.getElem?_eq_none (by omega)]
theorem ev_markStringS : ∀ x, evFnX tab [(53, (pureC MkX [(.rd, false)] [false] (fun x => [[.lf (.int .i64 x.n)]]) (fun x => [[.lf (.string (mkT x.n))]])))] (cMarkS 1 strE1 markS 1) Try.f74 (body Try.f74) x := by
  rintro ⟨⟨l, k, h1, h2⟩, hl⟩
  replace hl : l.length ≤ 1048576 := hl
  conv => whnf
  let S0 : Nat → Sl := fun i => [(0, .sl 0 none), (1, .lf (.int .i64 (k + (i : Int)))), (5, .lf (.int .i64 i)), (1000000, .sl 0 none)]
  refine ⟨fun m s h => ∃ (i : Nat) (l' : List ByteArray), i ≤ l.length ∧ l'.length = l.length ∧ (∀ j, j < i → l'[j]? = (markS k l.length)[j]?) ∧ m = l.length - i ∧ s = S0 i ∧ h = [(0, some (.row .own 1 strE1 l'))],
    l.length, [(0, 0)], S0 0, [(0, some (.row .own 1 strE1 l))], ⟨rfl, ⟨rfl, ?_, rfl, rfl, trivial⟩, rfl, trivial⟩, ⟨0, l, by omega, rfl, fun j h => by omega, by omega, rfl, rfl⟩, ?_⟩
  · show V.lf (.int .i64 k) = V.lf (.int .i64 (k + ((0 : Nat) : Int)))
    rw [show k + ((0 : Nat) : Int) = k by omega]
  rintro m _ _ ⟨i, l', g1, g2, g3, rfl, rfl, rfl⟩
  conv => whnf
  intro _
  conv => whnf
  refine br2 (fun h5 => ?_) (fun h5 => ?_)
  · have hi : i < l.length := by have := of_decide_eq_true h5; omega
    obtain ⟨y, hy⟩ := getL (l := l') (j := i) (by omega)
    have w1 : IntKind.i64.wrap (k + (i : Int) + 1) = k + ((i + 1 : Nat) : Int) := by rw [w64 (by omega) (by omega)]; omega
    have fin : ∀ {s' : Sl} {h' : Hp}, Le [(0, 0)] (S0 (i + 1)) [(0, some (.row .own 1 strE1 (l'.set i (mkT (k + (i : Int))))))] s' h' →
        ∃ m' ρ s'' h'', m' < l.length - i ∧ Le ρ s'' h'' s' h' ∧ ∃ (i : Nat) (l' : List ByteArray), i ≤ l.length ∧ l'.length = l.length ∧ (∀ j, j < i → l'[j]? = (markS k l.length)[j]?) ∧ m' = l.length - i ∧ s'' = S0 i ∧ h'' = [(0, some (.row .own 1 strE1 l'))] := fun hle =>
      ⟨l.length - (i + 1), _, _, _, by omega, hle, i + 1, l'.set i (mkT (k + (i : Int))), by omega, by simpa using g2, fun j hj => by
        rw [List.getElem?_set]
        by_cases e : i = j
        · subst e; rw [if_pos rfl, if_pos (by omega), markS_get hi]
        · rw [if_neg e]; exact g3 j (by omega), rfl, rfl, rfl⟩
    conv => whnf
    first | (refine ⟨⟨k + (i : Int), by omega, by omega⟩, rfl, ?_⟩; rintro _ _ ⟨rfl, rfl⟩; conv => whnf) | skip
    refine ⟨Int.natCast_nonneg _, ltI hy, ?_⟩
    conv => whnf
    refine ex2 _ (nthI hy) ?_
    conv => whnf
    refine ⟨mkT (k + (i : Int)), rfl, ?_⟩
    conv => whnf
    refine fin ⟨rfl, ⟨rfl, ?_, incI hi (by omega), rfl, trivial⟩, by rfl, trivial⟩
    show V.lf (.int .i64 (IntKind.i64.wrap (k + (i : Int) + 1))) = _
    rw [w1]
  · have hi : i = l.length := by have := of_decide_eq_false h5; omega
    subst hi
    conv => whnf
    refine ⟨⟨?_, ?_⟩⟩
    · show [[D.row 1 strE1 l']] = [[D.row 1 strE1 (markS k l.length)]]
      rw [eq_mark g2 (markS_len _ _) g3]
    · show [[D.lf (.int .i64 (k + (l.length : Int)))]] = [[D.lf (.int .i64 (k + 1 * (l.length : Int)))]]
      rw [Int.one_mul]
theorem markStringS_ok : FnOk Try.prog 74 (cMarkS 1 strE1 markS 1) := fnOk_of fun x => fnX_at tab_ok (SOk.cons markText_ok SOk.nil) mixed (fn := Try.f74) (code := body Try.f74) ⟨Try.func74, rfl, by kernel_rfl, by kernel_rfl, by kernel_rfl, by kernel_rfl⟩ (ev_markStringS x)
theorem ev_markIntS : ∀ x, evFnX tab [] (cMarkS 1 intE1 markI 1) Try.f75 (body Try.f75) x := by
  rintro ⟨⟨l, k, h1, h2⟩, hl⟩
  replace hl : l.length ≤ 1048576 := hl
  conv => whnf
  let S0 : Nat → Sl := fun i => [(0, .sl 0 none), (1, .lf (.int .i64 (k + (i : Int)))), (5, .lf (.int .i64 i)), (1000000, .sl 0 none)]
  refine ⟨fun m s h => ∃ (i : Nat) (l' : List Int), i ≤ l.length ∧ l'.length = l.length ∧ (∀ j, j < i → l'[j]? = (markI k l.length)[j]?) ∧ m = l.length - i ∧ s = S0 i ∧ h = [(0, some (.row .own 1 intE1 l'))],
    l.length, [(0, 0)], S0 0, [(0, some (.row .own 1 intE1 l))], ⟨rfl, ⟨rfl, ?_, rfl, rfl, trivial⟩, rfl, trivial⟩, ⟨0, l, by omega, rfl, fun j h => by omega, by omega, rfl, rfl⟩, ?_⟩
  · show V.lf (.int .i64 k) = V.lf (.int .i64 (k + ((0 : Nat) : Int)))
    rw [show k + ((0 : Nat) : Int) = k by omega]
  rintro m _ _ ⟨i, l', g1, g2, g3, rfl, rfl, rfl⟩
  conv => whnf
  intro _
  conv => whnf
  refine br2 (fun h5 => ?_) (fun h5 => ?_)
  · have hi : i < l.length := by have := of_decide_eq_true h5; omega
    obtain ⟨y, hy⟩ := getL (l := l') (j := i) (by omega)
    have w1 : IntKind.i64.wrap (k + (i : Int) + 1) = k + ((i + 1 : Nat) : Int) := by rw [w64 (by omega) (by omega)]; omega
    have fin : ∀ {s' : Sl} {h' : Hp}, Le [(0, 0)] (S0 (i + 1)) [(0, some (.row .own 1 intE1 (l'.set i (k + (i : Int)))))] s' h' →
        ∃ m' ρ s'' h'', m' < l.length - i ∧ Le ρ s'' h'' s' h' ∧ ∃ (i : Nat) (l' : List Int), i ≤ l.length ∧ l'.length = l.length ∧ (∀ j, j < i → l'[j]? = (markI k l.length)[j]?) ∧ m' = l.length - i ∧ s'' = S0 i ∧ h'' = [(0, some (.row .own 1 intE1 l'))] := fun hle =>
      ⟨l.length - (i + 1), _, _, _, by omega, hle, i + 1, l'.set i (k + (i : Int)), by omega, by simpa using g2, fun j hj => by
        rw [List.getElem?_set]
        by_cases e : i = j
        · subst e; rw [if_pos rfl, if_pos (by omega), markI_get hi]
        · rw [if_neg e]; exact g3 j (by omega), rfl, rfl, rfl⟩
    conv => whnf
    first | (refine ⟨⟨k + (i : Int), by omega, by omega⟩, rfl, ?_⟩; rintro _ _ ⟨rfl, rfl⟩; conv => whnf) | skip
    refine ⟨Int.natCast_nonneg _, ltI hy, ?_⟩
    conv => whnf
    refine ex2 _ (nthI hy) ?_
    conv => whnf
    refine ⟨k + (i : Int), rfl, ?_⟩
    conv => whnf
    refine fin ⟨rfl, ⟨rfl, ?_, incI hi (by omega), rfl, trivial⟩, by rfl, trivial⟩
    show V.lf (.int .i64 (IntKind.i64.wrap (k + (i : Int) + 1))) = _
    rw [w1]
  · have hi : i = l.length := by have := of_decide_eq_false h5; omega
    subst hi
    conv => whnf
    refine ⟨⟨?_, ?_⟩⟩
    · show [[D.row 1 intE1 l']] = [[D.row 1 intE1 (markI k l.length)]]
      rw [eq_mark g2 (markI_len _ _) g3]
    · show [[D.lf (.int .i64 (k + (l.length : Int)))]] = [[D.lf (.int .i64 (k + 1 * (l.length : Int)))]]
      rw [Int.one_mul]
theorem markIntS_ok : FnOk Try.prog 75 (cMarkS 1 intE1 markI 1) := fnOk_of fun x => fnX_at tab_ok (SOk.nil) mixed (fn := Try.f75) (code := body Try.f75) ⟨Try.func75, rfl, by kernel_rfl, by kernel_rfl, by kernel_rfl, by kernel_rfl⟩ (ev_markIntS x)
end Go.Vm
namespace Go.Vm
open Go.Proofs
set_option maxRecDepth 100000
set_option linter.unusedVariables false
set_option linter.unusedSimpArgs false

def nodeW (n : NodeX) : Int := 2 * (n.ps.length : Int) + n.keys.length + n.kids.length
def markNode (k : Int) (n : NodeX) : NodeX := ⟨markP k n.ps.length, markS (k + 2 * (n.ps.length : Int)) n.keys.length, markI (k + 2 * (n.ps.length : Int) + n.keys.length) n.kids.length⟩
def nodesW : List NodeX → Int
  | [] => 0
  | n :: l => nodeW n + nodesW l
def markNs (k : Int) : List NodeX → List NodeX
  | [] => []
  | n :: l => markNode k n :: markNs (k + nodeW n) l
theorem nodeW_pos (n : NodeX) : 0 ≤ nodeW n := by unfold nodeW; omega
theorem nodeW_le {n : NodeX} (h : nodeB n) : nodeW n ≤ 4194304 := by obtain ⟨a, b, c⟩ := h; unfold nodeW; omega
theorem nodesW_pos (l : List NodeX) : 0 ≤ nodesW l := by
  induction l with
  | nil => exact Int.le_refl 0
  | cons n l ih => have := nodeW_pos n; simp only [nodesW]; omega
theorem nodesW_le {l : List NodeX} (h : ∀ n ∈ l, nodeB n) : nodesW l ≤ 4194304 * l.length := by
  induction l with
  | nil => simp [nodesW]
  | cons n l ih =>
    have a := nodeW_le (h n (by simp))
    have b := ih fun m hm => h m (by simp [hm])
    simp only [nodesW, List.length_cons]; omega
theorem nodesW_take {l : List NodeX} {i : Nat} {n : NodeX} (h : l[i]? = some n) : nodesW (l.take (i + 1)) = nodesW (l.take i) + nodeW n := by
  induction l generalizing i with
  | nil => simp at h
  | cons m l ih =>
    cases i with
    | zero => obtain rfl : m = n := by simpa using h
              simp [nodesW]
    | succ i => have := ih (i := i) (by simpa using h); simp only [List.take_succ_cons, nodesW] at *; omega
theorem nodesW_take_le (l : List NodeX) (i : Nat) : nodesW (l.take i) ≤ nodesW l := by
  induction l generalizing i with
  | nil => simp
  | cons m l ih =>
    cases i with
    | zero => exact nodesW_pos _
    | succ i => have := ih i; simp only [List.take_succ_cons, nodesW] at *; omega
theorem markNs_len (k : Int) (l : List NodeX) : (markNs k l).length = l.length := by
  induction l generalizing k with
  | nil => rfl
  | cons n l ih => simp [markNs, ih]
theorem markNs_get {k : Int} {l : List NodeX} {i : Nat} {n : NodeX} (h : l[i]? = some n) : (markNs k l)[i]? = some (markNode (k + nodesW (l.take i)) n) := by
  induction l generalizing i k with
  | nil => simp at h
  | cons m l ih =>
    cases i with
    | zero => obtain rfl : m = n := by simpa using h
              simp [markNs, nodesW]
    | succ i => rw [markNs, List.getElem?_cons_succ, ih (by simpa using h), List.take_succ_cons, nodesW, Int.add_assoc]
theorem markNs_set {k : Int} {l l' : List NodeX} {i : Nat} {n : NodeX} (hn : l[i]? = some n) (hl : l'.length = l.length) (h1 : ∀ j, j < i → l'[j]? = (markNs k l)[j]?) :
    ∀ j, j < i + 1 → (l'.set i (markNode (k + nodesW (l.take i)) n))[j]? = (markNs k l)[j]? := by
  intro j hj
  have hi : i < l.length := by rcases Nat.lt_or_ge i l.length with h | h; exact h; rw [List.getElem?_eq_none h] at hn; cases hn
  rw [List.getElem?_set]
  by_cases e : i = j
  · subst e; rw [if_pos rfl, if_pos (by omega), markNs_get hn]
  · rw [if_neg e]; exact h1 j (by omega)
theorem markNs_all {k : Int} {l l' : List NodeX} (hl : l'.length = l.length) (h : ∀ j, j < l.length → l'[j]? = (markNs k l)[j]?) : l' = markNs k l := eq_mark hl (markNs_len k l) h
structure MarkNX where
  l : List NodeX
  k : Int
  h1 : 0 ≤ k
  h2 : k + nodesW l ≤ 1125899906842624
  hl : l.length ≤ 1048576
  hb : ∀ n ∈ l, nodeB n
def cMarkN (d : Bool) : Con := { X := MarkNX, params := [(.mut, d), (.rd, false)], res := [false], resOwn := true, ins := fun x => [[.row 3 NodeX.ds x.l], [.lf (.int .i64 x.k)]], post := fun x outs r => outs = [[.row 3 NodeX.ds (markNs x.k x.l)]] ∧ r = [[.lf (.int .i64 (x.k + nodesW x.l))]] }
theorem ev_markNodeS : ∀ x, evFnX tab [(1000004, cGh), (1000003, cGh), (20, (cMarkS 2 RngX.ds markP 2)), (74, (cMarkS 1 strE1 markS 1)), (75, (cMarkS 1 intE1 markI 1))] (cMarkN false) Try.f40 (body Try.f40) x := by
  rintro ⟨l, k, h1, h2, hl, hb⟩
  replace hl : l.length ≤ 1048576 := hl
  replace hb : ∀ n ∈ l, nodeB n := hb
  conv => whnf
  let S0 : Nat → Sl := fun i => [(0, .sl 0 none), (1, .lf (.int .i64 (k + nodesW (l.take i)))), (5, .lf (.int .i64 i)), (1000000, .sl 0 none)]
  refine ⟨fun m s h => ∃ (i : Nat) (l' : List NodeX), i ≤ l.length ∧ l'.length = l.length ∧ (∀ j, j < i → l'[j]? = (markNs k l)[j]?) ∧ (∀ j, i ≤ j → l'[j]? = l[j]?) ∧ m = l.length - i ∧ s = S0 i ∧ h = [(0, some (.row .own 3 NodeX.ds l'))],
    l.length, [(0, 0)], S0 0, [(0, some (.row .own 3 NodeX.ds l))], ⟨rfl, ⟨rfl, ?_, rfl, rfl, trivial⟩, rfl, trivial⟩, ⟨0, l, by omega, rfl, fun j h => by omega, fun j _ => rfl, by omega, rfl, rfl⟩, ?_⟩
  · show V.lf (.int .i64 k) = V.lf (.int .i64 (k + 0))
    rw [Int.add_zero]
  rintro m _ _ ⟨i, l', g1, g2, g3, g4, rfl, rfl, rfl⟩
  conv => whnf
  intro _
  conv => whnf
  refine br2 (fun h5 => ?_) (fun h5 => ?_)
  · have hi : i < l.length := by have := of_decide_eq_true h5; omega
    obtain ⟨y, hy⟩ := getL hi
    have hy' : l'[i]? = some y := (g4 i (Nat.le_refl _)).trans hy
    obtain ⟨ps, keys, kids⟩ := y
    obtain ⟨b1, b2, b3⟩ : ps.length ≤ 1048576 ∧ keys.length ≤ 1048576 ∧ kids.length ≤ 1048576 := hb _ (List.mem_of_getElem? hy)
    have t1 := nodesW_take hy
    have t2 := nodesW_take_le l (i + 1)
    have t3 := nodesW_pos (l.take i)
    have s1 := markNs_set (k := k) hy g2 g3
    replace t1 : nodesW (l.take (i + 1)) = nodesW (l.take i) + (2 * (ps.length : Int) + keys.length + kids.length) := t1
    conv => whnf
    refine ⟨[.foc 0 i 1000], ?_⟩
    conv => whnf
    refine ex2 _ (by rw [nth_eq]; exact hy') ?_
    conv => whnf
    refine ⟨Int.natCast_nonneg _, ltI hy', ?_⟩
    conv => whnf
    refine ⟨Int.toNat_natCast i, ?_⟩
    conv => whnf
    refine ⟨⟨⟨ps, k + nodesW (l.take i), by omega, by omega⟩, b1⟩, rfl, ?_⟩
    rintro _ _ ⟨rfl, rfl⟩
    conv => whnf
    refine ⟨Int.natCast_nonneg _, ltI hy', ?_⟩
    conv => whnf
    refine ⟨Int.toNat_natCast i, ?_⟩
    conv => whnf
    refine ⟨⟨⟨keys, k + nodesW (l.take i) + 2 * (ps.length : Int), by omega, by omega⟩, b2⟩, rfl, ?_⟩
    rintro _ _ ⟨rfl, rfl⟩
    conv => whnf
    refine ⟨Int.natCast_nonneg _, ltI hy', ?_⟩
    conv => whnf
    refine ⟨Int.toNat_natCast i, ?_⟩
    conv => whnf
    refine ⟨⟨⟨kids, k + nodesW (l.take i) + 2 * (ps.length : Int) + 1 * (keys.length : Int), by omega, by omega⟩, b3⟩, rfl, ?_⟩
    rintro _ _ ⟨rfl, rfl⟩
    conv => whnf
    refine ⟨[.unf 0], ?_⟩
    conv => whnf
    refine ⟨markNode (k + nodesW (l.take i)) ⟨ps, keys, kids⟩, ?_, ?_⟩
    · show [D.row 2 RngX.ds (markP (k + nodesW (l.take i)) ps.length), D.row 1 strE1 (markS (k + nodesW (l.take i) + 2 * (ps.length : Int)) keys.length), D.row 1 intE1 (markI (k + nodesW (l.take i) + 2 * (ps.length : Int) + (keys.length : Int)) kids.length)] = [D.row 2 RngX.ds (markP (k + nodesW (l.take i)) ps.length), D.row 1 strE1 (markS (k + nodesW (l.take i) + 2 * (ps.length : Int)) keys.length), D.row 1 intE1 (markI (k + nodesW (l.take i) + 2 * (ps.length : Int) + 1 * (keys.length : Int)) kids.length)]
      rw [Int.one_mul]
    conv => whnf
    refine ⟨l.length - (i + 1), [(0, 0)], S0 (i + 1), [(0, some (.row .own 3 NodeX.ds (l'.set i (markNode (k + nodesW (l.take i)) ⟨ps, keys, kids⟩))))], by omega, ⟨rfl, ⟨rfl, ?_, incI hi (by omega), rfl, trivial⟩, by rfl, trivial⟩, i + 1, _, by omega, by simpa using g2, s1, fun j hj => ?_, rfl, rfl, rfl⟩
    · show V.lf (.int .i64 (k + nodesW (l.take i) + 2 * (ps.length : Int) + 1 * (keys.length : Int) + 1 * (kids.length : Int))) = V.lf (.int .i64 (k + nodesW (l.take (i + 1))))
      rw [t1, show k + nodesW (l.take i) + 2 * (ps.length : Int) + 1 * (keys.length : Int) + 1 * (kids.length : Int) = k + (nodesW (l.take i) + (2 * (ps.length : Int) + keys.length + kids.length)) by omega]
    · rw [List.getElem?_set, if_neg (by omega)]; exact g4 j (by omega)
  · have hi : i = l.length := by have := of_decide_eq_false h5; omega
    subst hi
    conv => whnf
    refine ⟨⟨?_, ?_⟩⟩
    · show [[D.row 3 NodeX.ds l']] = [[D.row 3 NodeX.ds (markNs k l)]]
      rw [markNs_all g2 g3]
    · show [[D.lf (.int .i64 (k + nodesW (l.take l.length)))]] = [[D.lf (.int .i64 (k + nodesW l))]]
      rw [List.take_length]
theorem markNodeS_ok : FnOk Try.prog 40 (cMarkN false) := fnOk_of fun x => fnX_at tab_ok (SOk.cons gh_ok (SOk.cons gh_ok (SOk.cons markPairS_ok (SOk.cons markStringS_ok (SOk.cons markIntS_ok SOk.nil))))) mixed (fn := Try.f40) (code := body Try.f40) ⟨Try.func40, rfl, by kernel_rfl, by kernel_rfl, by kernel_rfl, by kernel_rfl⟩ (ev_markNodeS x)
theorem ev_markTree : ∀ x, evFnX tab [(40, (cMarkN false))] (cMarkN true) Try.f11 (body Try.f11) x := by
  rintro ⟨l, k, h1, h2, hl, hb⟩
  conv => whnf
  refine ⟨⟨l, k, h1, h2, hl, hb⟩, rfl, ?_⟩
  rintro _ _ ⟨rfl, rfl⟩
  conv => whnf
  exact ⟨⟨rfl, rfl⟩⟩
theorem markTree_ok : FnOk Try.prog 11 (cMarkN true) := fnOk_of fun x => fnX_at tab_ok (SOk.cons markNodeS_ok SOk.nil) mixed (fn := Try.f11) (code := body Try.f11) ⟨Try.func11, rfl, by kernel_rfl, by kernel_rfl, by kernel_rfl, by kernel_rfl⟩ (ev_markTree x)
end Go.Vm
namespace Go.Vm
open Go.Proofs
set_option maxRecDepth 100000
set_option linter.unusedVariables false
set_option linter.unusedSimpArgs false

structure EdX where
  key : ByteArray
  val : ByteArray
  gone : Bool
def EdX.ds (x : EdX) : List D := [.lf (.string x.key), .lf (.string x.val), .lf (.bool x.gone)]
def edB0 (x : EdX) : Prop := x.key.size ≤ maxS ∧ x.val.size ≤ maxS
def edB (x : EdX) : Prop := x.key.size ≤ 1048576 ∧ x.val.size ≤ 1048576
def ed0 : EdX := ⟨⟨#[]⟩, ⟨#[]⟩, false⟩
theorem ev_szEdit : ∀ x, evFnX tab [] (cSz EdX.ds edB0 edB) Try.f42 (body Try.f42) x := by
  rintro ⟨⟨lo, hi, g⟩, left, h1, h2, hb1, hb2⟩
  replace hb1 : lo.size ≤ 9223372036854775807 := hb1
  replace hb2 : hi.size ≤ 9223372036854775807 := hb2
  conv => whnf
  have e1 : IntKind.i64.wrap (left - (lo.size : Int)) = left - lo.size := w64 (by omega) (by omega)
  refine br2 (fun h3 => ?_) (fun h3 => ?_)
  · conv => whnf
    exact ⟨⟨rfl, -1, rfl, by omega, (show (-1 : Int) ≤ left by omega), fun h => by omega⟩⟩
  · replace h3 : decide (IntKind.i64.wrap (left - (lo.size : Int)) < 0) = false := h3
    rw [e1] at h3
    have h3' := of_decide_eq_false h3
    conv => whnf
    have e2 : IntKind.i64.wrap (IntKind.i64.wrap (left - (lo.size : Int)) - (hi.size : Int)) = left - lo.size - hi.size := by rw [e1]; exact w64 (by omega) (by omega)
    refine br2 (fun h4 => ?_) (fun h4 => ?_)
    · conv => whnf
      exact ⟨⟨rfl, -1, rfl, by omega, (show (-1 : Int) ≤ left by omega), fun h => by omega⟩⟩
    · replace h4 : decide (IntKind.i64.wrap (IntKind.i64.wrap (left - (lo.size : Int)) - (hi.size : Int)) < 0) = false := h4
      rw [e2] at h4
      have h4' := of_decide_eq_false h4
      conv => whnf
      refine ⟨⟨rfl, _, rfl, ?_, ?_, fun _ => (⟨by omega, by omega⟩ : lo.size ≤ 1048576 ∧ hi.size ≤ 1048576)⟩⟩
      · show -1 ≤ IntKind.i64.wrap (IntKind.i64.wrap (left - (lo.size : Int)) - (hi.size : Int))
        rw [e2]; omega
      · show IntKind.i64.wrap (IntKind.i64.wrap (left - (lo.size : Int)) - (hi.size : Int)) ≤ left
        rw [e2]; omega
theorem szEdit_ok : FnOk Try.prog 42 (cSz EdX.ds edB0 edB) := fnOk_of fun x => fnX_at tab_ok (SOk.nil) mixed (fn := Try.f42) (code := body Try.f42) ⟨Try.func42, rfl, by kernel_rfl, by kernel_rfl, by kernel_rfl, by kernel_rfl⟩ (ev_szEdit x)
theorem ev_szEditS : ∀ x, evFnX tab [(42, (cSz EdX.ds edB0 edB))] (cSzS 3 EdX.ds edB0 edB) Try.f13 (body Try.f13) x := by
  rintro ⟨l, left, h1, h2, hb0, hb⟩
  replace hb0 : l.length ≤ 9223372036854775807 := hb0
  conv => whnf
  intro h3
  conv => whnf
  have e1 : IntKind.i64.wrap (left - (l.length : Int)) = left - l.length := w64 (by omega) (by omega)
  refine br2 (fun h4 => ?_) (fun h4 => ?_)
  · conv => whnf
    exact ⟨⟨rfl, -1, rfl, by omega, (show (-1 : Int) ≤ left by omega), fun h => by omega⟩⟩
  replace h4 : decide (IntKind.i64.wrap (left - (l.length : Int)) < 0) = false := h4
  rw [e1] at h4
  have h4' := of_decide_eq_false h4
  conv => whnf
  refine ⟨fun m s h => ∃ (i : Nat) (k : Int), i ≤ l.length ∧ 0 ≤ k ∧ k ≤ left - l.length ∧ (∀ j y, j < i → l[j]? = some y → edB y) ∧ m = l.length - i ∧ s = [(0, .sl 0 none), (1, .lf (.int .i64 k)), (5, .lf (.int .i64 i))] ∧ h = [(0, some (.row .lent 3 EdX.ds l))],
    l.length, [(0, 0)], [(0, .sl 0 none), (1, .lf (.int .i64 (left - l.length))), (5, .lf (.int .i64 0))], [(0, some (.row .lent 3 EdX.ds l))], ⟨rfl, ⟨rfl, ?_, rfl, trivial⟩, ⟨rfl, trivial⟩⟩, ⟨0, left - l.length, by omega, by omega, by omega, fun j y h => by omega, by omega, rfl, rfl⟩, ?_⟩
  · show V.lf (.int .i64 (IntKind.i64.wrap (left - (l.length : Int)))) = _
    rw [e1]
  rintro m _ _ ⟨i, k, g1, g2, g3, g4, rfl, rfl, rfl⟩
  conv => whnf
  intro _
  conv => whnf
  refine br2 (fun h5 => ?_) (fun h5 => ?_)
  · have hi : i < l.length := by have := of_decide_eq_true h5; omega
    obtain ⟨y, hy⟩ : ∃ y, l[i]? = some y := ⟨_, List.getElem?_eq_getElem hi⟩
    have hy2 : nth l ((i : Nat) : Int).toNat = some y := by rw [nth_eq, Int.toNat_natCast]; exact hy
    conv => whnf
    refine ⟨Int.natCast_nonneg _, (show (i : Int) < (l.length : Int) by omega), ?_⟩
    conv => whnf
    refine ex2 y hy2 ?_
    conv => whnf
    refine ⟨⟨y, k, g2, by omega, hb y (List.mem_of_getElem? hy)⟩, rfl, ?_⟩
    rintro _ _ ⟨rfl, k', rfl, k1, k2, k3⟩
    replace k2 : k' ≤ k := k2
    conv => whnf
    refine br2 (fun h6 => ?_) (fun h6 => ?_)
    · conv => whnf
      exact ⟨⟨rfl, -1, rfl, by omega, (show (-1 : Int) ≤ left by omega), fun h => by omega⟩⟩
    · have h6' := of_decide_eq_false h6
      conv => whnf
      refine ⟨l.length - (i + 1), [(0, 0)], [(0, .sl 0 none), (1, .lf (.int .i64 k')), (5, .lf (.int .i64 ((i + 1 : Nat) : Int)))], [(0, some (.row .lent 3 EdX.ds l))], by omega, ⟨rfl, ⟨rfl, rfl, ?_, trivial⟩, ⟨rfl, trivial⟩⟩, i + 1, k', by omega, by omega, by omega, fun j z hj hz => ?_, rfl, rfl, rfl⟩
      · show V.lf (.int .i64 (IntKind.i64.wrap ((i : Int) + 1))) = _
        rw [w64 (by omega) (by omega)]; rfl
      · rcases Nat.lt_or_ge j i with h7 | h7
        · exact g4 j z h7 hz
        · obtain rfl : j = i := by omega
          rw [hy] at hz; cases hz; exact k3 (by omega)
  · have hi : i = l.length := by have := of_decide_eq_false h5; omega
    conv => whnf
    refine ⟨⟨rfl, k, rfl, by omega, (show k ≤ left by omega), fun _ => (⟨by omega, fun y hy => ?_⟩ : (l.length : Int) + k ≤ left ∧ ∀ y ∈ l, edB y)⟩⟩
    obtain ⟨j, hj⟩ := List.getElem?_of_mem hy
    exact g4 j y (by rw [hi]; exact (List.getElem?_eq_some_iff.1 hj).1) hj
theorem szEditS_ok : FnOk Try.prog 13 (cSzS 3 EdX.ds edB0 edB) := fnOk_of fun x => fnX_at tab_ok (SOk.cons szEdit_ok SOk.nil) mixed (fn := Try.f13) (code := body Try.f13) ⟨Try.func13, rfl, by kernel_rfl, by kernel_rfl, by kernel_rfl, by kernel_rfl⟩ (ev_szEditS x)
theorem ev_toEdit : ∀ x, evFnX tab [] (cCopy EdX.ds) Try.f47 (body Try.f47) x := by
  intro x
  conv => whnf
  exact ⟨⟨rfl, rfl⟩⟩
theorem toEdit_ok : FnOk Try.prog 47 (cCopy EdX.ds) := fnOk_of fun x => fnX_at tab_ok (SOk.nil) mixed (fn := Try.f47) (code := body Try.f47) ⟨Try.func47, rfl, by kernel_rfl, by kernel_rfl, by kernel_rfl, by kernel_rfl⟩ (ev_toEdit x)
theorem ev_eqEdit : ∀ x, evFnX tab [] (cEq EdX.ds) Try.f52 (body Try.f52) x := by
  rintro ⟨⟨a, b, e⟩, ⟨c, d, f⟩⟩
  repeat' ((conv => whnf); refine br2 (fun h => ?_) (fun h => ?_))
  all_goals (conv => whnf)
  all_goals refine ⟨⟨rfl, ?_⟩⟩
  all_goals show _ = [[D.lf (.bool (eqX (⟨a, b, e⟩ : EdX) ⟨c, d, f⟩))]]
  all_goals congr 4
  all_goals rw [eq_comm]
  all_goals simp_all [eqX_iff, eqX_no, strEq_iff, strEq_no]
theorem eqEdit_ok : FnOk Try.prog 52 (cEq EdX.ds) := fnOk_of fun x => fnX_at tab_ok (SOk.nil) mixed (fn := Try.f52) (code := body Try.f52) ⟨Try.func52, rfl, by kernel_rfl, by kernel_rfl, by kernel_rfl, by kernel_rfl⟩ (ev_eqEdit x)
theorem ev_toEditS : ∀ x, evFnX tab [(47, (cCopy EdX.ds))] (cCopyS 3 EdX.ds) Try.f15 (body Try.f15) x := by
  rintro ⟨l, hl⟩
  conv => whnf
  intro h1
  conv => whnf
  refine ⟨Int.natCast_nonneg _, rfl, ?_, ?_⟩
  · show (l.length : Int) ≤ (4294967296 : Nat); omega
  conv => whnf
  refine ⟨EdX, EdX.ds, ed0, fun _ => rfl, rfl, ?_⟩
  conv => whnf
  refine ⟨fun m s h => ∃ (i : Nat) (l' : List EdX), i ≤ l.length ∧ l'.length = l.length ∧ (∀ j, j < i → l'[j]? = l[j]?) ∧ m = l.length - i ∧ s = [(0, .sl 0 none), (3, .sl 112 none), (4, .lf (.int .i64 i))] ∧ h = [(112, some (.row .own 3 EdX.ds l')), (0, some (.row .lent 3 EdX.ds l))],
    l.length, [(112, 112), (0, 0)], [(0, .sl 0 none), (3, .sl 112 none), (4, .lf (.int .i64 0))], [(112, some (.row .own 3 EdX.ds (List.replicate (l.length : Int).toNat ed0))), (0, some (.row .lent 3 EdX.ds l))], ⟨rfl, ⟨rfl, rfl, rfl, trivial⟩, ⟨rfl, rfl, trivial⟩⟩,
    ⟨0, _, by omega, by rw [List.length_replicate, Int.toNat_natCast], fun j h => by omega, by omega, rfl, rfl⟩, ?_⟩
  rintro m _ _ ⟨i, l', g1, g2, g3, rfl, rfl, rfl⟩
  conv => whnf
  intro _
  conv => whnf
  refine br2 (fun h5 => ?_) (fun h5 => ?_)
  · have hi : i < l.length := by have := of_decide_eq_true h5; omega
    obtain ⟨y, hy⟩ : ∃ y, l[i]? = some y := ⟨_, List.getElem?_eq_getElem hi⟩
    have hy2 : nth l ((i : Nat) : Int).toNat = some y := by rw [nth_eq, Int.toNat_natCast]; exact hy
    obtain ⟨z, hz⟩ : ∃ z, l'[i]? = some z := ⟨_, List.getElem?_eq_getElem (by omega)⟩
    have hz2 : nth l' ((i : Nat) : Int).toNat = some z := by rw [nth_eq, Int.toNat_natCast]; exact hz
    conv => whnf
    refine ⟨Int.natCast_nonneg _, (show (i : Int) < (l.length : Int) by omega), ?_⟩
    conv => whnf
    refine ex2 y hy2 ?_
    conv => whnf
    refine ⟨y, rfl, ?_⟩
    rintro _ _ ⟨rfl, rfl⟩
    conv => whnf
    refine ⟨Int.natCast_nonneg _, (show (i : Int) < (l'.length : Int) by omega), ?_⟩
    conv => whnf
    refine ex2 z hz2 ?_
    conv => whnf
    refine ⟨y, rfl, ?_⟩
    conv => whnf
    refine ⟨l.length - (i + 1), [(112, 112), (0, 0)], [(0, .sl 0 none), (3, .sl 112 none), (4, .lf (.int .i64 ((i + 1 : Nat) : Int)))], [(112, some (.row .own 3 EdX.ds (l'.set (i : Int).toNat y))), (0, some (.row .lent 3 EdX.ds l))], by omega, ⟨rfl, ⟨rfl, rfl, ?_, trivial⟩, ⟨rfl, rfl, trivial⟩⟩, i + 1, _, by omega, ?_, fun j hj => ?_, rfl, rfl, rfl⟩
    · show V.lf (.int .i64 (IntKind.i64.wrap ((i : Int) + 1))) = _
      rw [w64 (by omega) (by omega)]; rfl
    · rw [List.length_set]; exact g2
    · rw [Int.toNat_natCast, set_at (by omega)]
      split
      · rename_i e; subst e; exact hy.symm
      · exact g3 j (by omega)
  · have hi : i = l.length := by have := of_decide_eq_false h5; omega
    conv => whnf
    refine ⟨⟨rfl, ?_⟩⟩
    have : l' = l := by
      apply List.ext_getElem?
      intro j
      rcases Nat.lt_or_ge j l.length with h | h
      · exact g3 j (by omega)
      · rw [List.getElem?_eq_none (by omega), List.getElem?_eq_none h]
    show [[D.row _ EdX.ds l']] = [[D.row 3 EdX.ds l]]
    rw [this]
theorem toEditS_ok : FnOk Try.prog 15 (cCopyS 3 EdX.ds) := fnOk_of fun x => fnX_at tab_ok (SOk.cons toEdit_ok SOk.nil) mixed (fn := Try.f15) (code := body Try.f15) ⟨Try.func15, rfl, by kernel_rfl, by kernel_rfl, by kernel_rfl, by kernel_rfl⟩ (ev_toEditS x)
theorem ev_eqEditS : ∀ x, evFnX tab [(52, (cEq EdX.ds))] (cEqS 3 EdX.ds) Try.f18 (body Try.f18) x := by
  rintro ⟨l, m⟩
  conv => whnf
  intro h1
  conv => whnf
  intro h2
  conv => whnf
  refine br2 (fun h3 => ?_) (fun h3 => ?_)
  · conv => whnf
    refine ⟨⟨rfl, ?_⟩⟩
    show _ = [[D.lf (.bool (eqX l m))]]
    have : l ≠ m := by rintro rfl; simp at h3
    rw [eqX_no.2 this]
  have hl : l.length = m.length := by
    replace h3 : ((l.length : Int) != (m.length : Int)) = false := h3
    simp at h3; omega
  conv => whnf
  refine ⟨fun k s h => ∃ i : Nat, i ≤ l.length ∧ (∀ j, j < i → l[j]? = m[j]?) ∧ k = l.length - i ∧ s = [(0, .sl 0 none), (1, .sl 16 none), (5, .lf (.int .i64 i))] ∧ h = [(0, some (.row .lent 3 EdX.ds l)), (16, some (.row .lent 3 EdX.ds m))],
    l.length, [(0, 0), (16, 16)], [(0, .sl 0 none), (1, .sl 16 none), (5, .lf (.int .i64 0))], [(0, some (.row .lent 3 EdX.ds l)), (16, some (.row .lent 3 EdX.ds m))], ⟨rfl, ⟨rfl, rfl, rfl, trivial⟩, ⟨rfl, rfl, trivial⟩⟩, ⟨0, by omega, fun j h => by omega, by omega, rfl, rfl⟩, ?_⟩
  rintro k _ _ ⟨i, g1, g2, rfl, rfl, rfl⟩
  conv => whnf
  intro h4
  conv => whnf
  refine br2 (fun h5 => ?_) (fun h5 => ?_)
  · have hi : i < l.length := by have := of_decide_eq_true h5; omega
    obtain ⟨y, hy⟩ : ∃ y, l[i]? = some y := ⟨_, List.getElem?_eq_getElem hi⟩
    have hy2 : nth l ((i : Nat) : Int).toNat = some y := by rw [nth_eq, Int.toNat_natCast]; exact hy
    obtain ⟨z, hz⟩ : ∃ z, m[i]? = some z := ⟨_, List.getElem?_eq_getElem (by omega)⟩
    have hz2 : nth m ((i : Nat) : Int).toNat = some z := by rw [nth_eq, Int.toNat_natCast]; exact hz
    conv => whnf
    refine ⟨Int.natCast_nonneg _, (show (i : Int) < (l.length : Int) by omega), ?_⟩
    conv => whnf
    refine ex2 y hy2 ?_
    conv => whnf
    refine ⟨Int.natCast_nonneg _, (show (i : Int) < (m.length : Int) by omega), ?_⟩
    conv => whnf
    refine ex2 z hz2 ?_
    conv => whnf
    refine ⟨(y, z), rfl, ?_⟩
    rintro _ _ ⟨rfl, rfl⟩
    conv => whnf
    refine br2 (fun h6 => ?_) (fun h6 => ?_)
    · replace h6 : (!eqX y z) = true := h6
      rw [Bool.not_eq_true', eqX_no] at h6
      conv => whnf
      refine ⟨⟨rfl, ?_⟩⟩
      show _ = [[D.lf (.bool (eqX l m))]]
      have : l ≠ m := by rintro rfl; rw [hy] at hz; cases hz; exact h6 rfl
      rw [eqX_no.2 this]
    · replace h6 : (!eqX y z) = false := h6
      rw [Bool.not_eq_false', eqX_iff] at h6
      conv => whnf
      refine ⟨l.length - (i + 1), [(0, 0), (16, 16)], [(0, .sl 0 none), (1, .sl 16 none), (5, .lf (.int .i64 ((i + 1 : Nat) : Int)))], [(0, some (.row .lent 3 EdX.ds l)), (16, some (.row .lent 3 EdX.ds m))], by omega, ⟨rfl, ⟨rfl, rfl, ?_, trivial⟩, ⟨rfl, rfl, trivial⟩⟩, i + 1, by omega, fun j hj => ?_, rfl, rfl, rfl⟩
      · show V.lf (.int .i64 (IntKind.i64.wrap ((i : Int) + 1))) = _
        replace h4 : l.length ≤ 9223372036854775807 := h4
        rw [w64 (by omega) (by omega)]; rfl
      · rcases Nat.lt_or_ge j i with h7 | h7
        · exact g2 j h7
        · obtain rfl : j = i := by omega
          rw [hy, hz, h6]
  · have hi : i = l.length := by have := of_decide_eq_false h5; omega
    conv => whnf
    refine ⟨⟨rfl, ?_⟩⟩
    show _ = [[D.lf (.bool (eqX l m))]]
    have : l = m := by
      apply List.ext_getElem?
      intro j
      rcases Nat.lt_or_ge j l.length with h | h
      · exact g2 j (by omega)
      · rw [List.getElem?_eq_none h, List.getElem?_eq_none (by omega)]
    rw [eqX_iff.2 this]
theorem eqEditS_ok : FnOk Try.prog 18 (cEqS 3 EdX.ds) := fnOk_of fun x => fnX_at tab_ok (SOk.cons eqEdit_ok SOk.nil) mixed (fn := Try.f18) (code := body Try.f18) ⟨Try.func18, rfl, by kernel_rfl, by kernel_rfl, by kernel_rfl, by kernel_rfl⟩ (ev_eqEditS x)
def edAt (k : Int) : EdX := ⟨mkT k, mkT (k + 1), (k + 2).tmod 3 == 0⟩
def markE (k : Int) (n : Nat) : List EdX := (List.range n).map fun i : Nat => edAt (k + 3 * (i : Int))
theorem markE_len (k : Int) (n : Nat) : (markE k n).length = n := by simp [markE]
theorem markE_get {k : Int} {n i : Nat} (h : i < n) : (markE k n)[i]? = some (edAt (k + 3 * (i : Int))) := by simp [markE, h]
theorem eq_markE {l : List EdX} {k : Int} {n : Nat} (h : l.length = n) (h2 : ∀ j, j < n → l[j]? = some (edAt (k + 3 * (j : Int)))) : l = markE k n := by
  apply List.ext_getElem?
  intro j
  by_cases hj : j < n
  · rw [h2 j hj, markE_get hj]
  · rw [List.getElem?_eq_none (by omega), List.getElem?_eq_none (by rw [markE_len]; omega)]
theorem ev_markEditS : ∀ x, evFnX tab [(53, (pureC MkX [(.rd, false)] [false] (fun x => [[.lf (.int .i64 x.n)]]) (fun x => [[.lf (.string (mkT x.n))]])))] (cMarkS 3 EdX.ds markE 3) Try.f19 (body Try.f19) x := by
  rintro ⟨⟨l, k, h1, h2⟩, hl⟩
  replace hl : l.length ≤ 1048576 := hl
  conv => whnf
  refine ⟨fun m s h => ∃ (i : Nat) (l' : List EdX), i ≤ l.length ∧ l'.length = l.length ∧ (∀ j, j < i → l'[j]? = some (edAt (k + 3 * (j : Int)))) ∧ m = l.length - i ∧ s = [(0, .sl 0 none), (1, .lf (.int .i64 (k + 3 * (i : Int)))), (5, .lf (.int .i64 i)), (1000000, .sl 0 none)] ∧ h = [(0, some (.row .own 3 EdX.ds l'))],
    l.length, [(0, 0)], [(0, .sl 0 none), (1, .lf (.int .i64 k)), (5, .lf (.int .i64 0)), (1000000, .sl 0 none)], [(0, some (.row .own 3 EdX.ds l))], ⟨rfl, ⟨rfl, rfl, rfl, rfl, trivial⟩, rfl, trivial⟩, ⟨0, l, by omega, rfl, fun j h => by omega, by omega, by simp, rfl⟩, ?_⟩
  rintro m _ _ ⟨i, l', g1, g2, g3, rfl, rfl, rfl⟩
  conv => whnf
  intro _
  conv => whnf
  refine br2 (fun h5 => ?_) (fun h5 => ?_)
  · have hi : i < l.length := by have := of_decide_eq_true h5; omega
    have hil : i < l'.length := by omega
    obtain ⟨y, hy⟩ := getL (l := l') (j := i) hil
    have hk0 : 0 ≤ k + 3 * (i : Int) ∧ k + 3 * (i : Int) ≤ 1125899920000000 := by omega
    have hk1 : k + 3 * ((i + 1 : Nat) : Int) = k + 3 * (i : Int) + 3 := by omega
    have g3' : ∀ z, z = edAt (k + 3 * (i : Int)) → ∀ j, j < i + 1 → (l'.set i z)[j]? = some (edAt (k + 3 * (j : Int))) := by
      rintro z rfl j hj
      rw [List.getElem?_set]
      by_cases e : i = j
      · subst e; rw [if_pos rfl, if_pos (by omega)]
      · rw [if_neg e]; exact g3 j (by omega)
    generalize hq : k + 3 * (i : Int) = q at *
    obtain ⟨hq0, hq1⟩ := hk0
    let q1 : Int := IntKind.i64.wrap (q + 1)
    have w1 : q1 = q + 1 := w64 (by omega) (by omega)
    let q2 : Int := IntKind.i64.wrap (q1 + 1)
    have w2 : q2 = q + 2 := by show IntKind.i64.wrap (q1 + 1) = q + 2; rw [w1, w64 (by omega) (by omega)]; omega
    have w3 : IntKind.i64.wrap (q2 + 1) = q + 3 := by rw [w2, w64 (by omega) (by omega)]; omega
    conv => whnf
    refine ⟨⟨q, by omega, by omega⟩, rfl, ?_⟩
    rintro _ _ ⟨rfl, rfl⟩
    conv => whnf
    refine ⟨Int.natCast_nonneg _, (show (i : Int) < (l'.length : Int) by omega), ?_⟩
    conv => whnf
    refine ex2 y (nthI hy) ?_
    conv => whnf
    refine ⟨⟨mkT q, y.val, y.gone⟩, rfl, ?_⟩
    conv => whnf
    refine ⟨⟨q1, by omega, by omega⟩, rfl, ?_⟩
    rintro _ _ ⟨rfl, rfl⟩
    conv => whnf
    refine ⟨Int.natCast_nonneg _, Int.ofNat_lt.2 (by simp only [List.length_set]; exact hil), ?_⟩
    conv => whnf
    refine ex2 _ (nth_setI hil) ?_
    conv => whnf
    refine ⟨⟨mkT q, mkT q1, y.gone⟩, rfl, ?_⟩
    conv => whnf
    refine ⟨Int.natCast_nonneg _, Int.ofNat_lt.2 (by simp only [List.length_set]; exact hil), ?_⟩
    conv => whnf
    refine ex2 _ (nth_setI (by rw [List.length_set]; exact hil)) ?_
    conv => whnf
    refine ⟨⟨mkT q, mkT q1, q2.tmod 3 == 0⟩, rfl, ?_⟩
    conv => whnf
    refine ⟨l.length - (i + 1), [(0, 0)], [(0, .sl 0 none), (1, .lf (.int .i64 (k + 3 * ((i + 1 : Nat) : Int)))), (5, .lf (.int .i64 ((i + 1 : Nat) : Int))), (1000000, .sl 0 none)], [(0, some (.row .own 3 EdX.ds (l'.set i (edAt q))))], by omega, ⟨rfl, ⟨rfl, ?_, ?_, rfl, trivial⟩, ?_, trivial⟩, i + 1, _, by omega, by simp; omega, g3' _ rfl, rfl, rfl, rfl⟩
    · show V.lf (.int .i64 (IntKind.i64.wrap (q2 + 1))) = _
      rw [w3, hk1]
    · show V.lf (.int .i64 (IntKind.i64.wrap ((i : Int) + 1))) = _
      rw [w64 (by omega) (by omega)]; rfl
    · show some (Ob.row .own 3 EdX.ds (((l'.set i _).set i _).set i (⟨mkT q, mkT q1, q2.tmod 3 == 0⟩ : EdX))) = _
      rw [w2, w1, List.set_set, List.set_set]; rfl
  · have hi : i = l.length := by have := of_decide_eq_false h5; omega
    subst hi
    have e1 := eq_markE g2 g3
    conv => whnf
    refine ⟨⟨?_, rfl⟩⟩
    show [[D.row 3 EdX.ds l']] = _
    rw [e1]
theorem markEditS_ok : FnOk Try.prog 19 (cMarkS 3 EdX.ds markE 3) := fnOk_of fun x => fnX_at tab_ok (SOk.cons markText_ok SOk.nil) mixed (fn := Try.f19) (code := body Try.f19) ⟨Try.func19, rfl, by kernel_rfl, by kernel_rfl, by kernel_rfl, by kernel_rfl⟩ (ev_markEditS x)
end Go.Vm
namespace Go.Vm
open Go.Proofs
set_option maxRecDepth 100000
set_option linter.unusedVariables false
set_option linter.unusedSimpArgs false

/-! Growing a tree out of its nodes -/
mutual
theorem Tw.deep_le : ∀ x : Tw, x.deep ≤ x.size
  | .mk ps ks => by simp only [Tw.deep, Tw.size]; have := Tw.deeps_le ks; omega
theorem Tw.deeps_le : ∀ ks : List Tw, Tw.deeps ks ≤ Tw.sizes ks
  | [] => Nat.le_refl _
  | k :: ks => by simp only [Tw.deeps, Tw.sizes]; have := Tw.deep_le k; have := Tw.deeps_le ks; omega
end
structure GrowX where
  N : List NodeX
  at_ : Nat
  root : Bool
  f : Nat
  hN : N.length ≤ 1048576
  hf : N.length ≤ f + at_
  hp : ∀ n ∈ N, n.ps.length ≤ 1048576
def optE (f : Nat) : Option Tw → List D
  | none => [.lf (.pointer none)]
  | some x => twE f x
structure GrowR (N : List NodeX) (a : Nat) (root : Bool) (f : Nat) (o : Option Tw) (next deep : Int) (ok : Bool) : Prop where
  fuel : o ≠ none → 1 ≤ f
  yes : ok = true → ∃ x d, o = some x ∧ Shp root d x ∧ d ≤ f ∧ Fit true N a x ∧ next = ((a + x.size : Nat) : Int) ∧ deep = (d : Int)
  no : ok = false → ∀ x d, Shp root d x → ¬ Fit true N a x
def cGrow : Con := relC GrowX [(.rd, false), (.rd, false), (.rd, false)] [false, false, false, false] (fun g => [[.box [.row 3 NodeX.ds g.N]], [.lf (.int .i64 g.at_)], [.lf (.bool g.root)]])
  (fun g r => ∃ o next deep ok, r = [optE g.f o, [.lf (.int .i64 next)], [.lf (.int .i64 deep)], [.lf (.bool ok)]] ∧ GrowR g.N g.at_ g.root g.f o next deep ok)
/-- What is known of the kids that are grown so far. -/
structure KidsTo (N : List NodeX) (a : Nat) (n : NodeX) (l : List Tw) (dd : Nat) : Prop where
  fit : FitK true N (a + 1) l
  kids : n.kids.take l.length = kidsAt l (a + 1)
  keys : ∀ j k, 0 < j → l[j]? = some k → n.keys[j - 1]? = some k.least
  shp : ∀ k ∈ l, Shp false dd k
  zero : l = [] → dd = 0
theorem KidsTo.snoc {N : List NodeX} {a : Nat} {n : NodeX} {l : List Tw} {dd d : Nat} {k : Tw} (h : KidsTo N a n l dd) (hk : n.kids[l.length]? = some (((a + 1 + Tw.sizes l : Nat)) : Int)) (hf : Fit true N (a + 1 + Tw.sizes l) k) (hs : Shp false d k)
    (he : 0 < l.length → d = dd) (hkey : 0 < l.length → n.keys[l.length - 1]? = some k.least) : KidsTo N a n (l ++ [k]) d := by
  refine ⟨fitK_app.2 ⟨h.fit, fitK_one.2 hf⟩, ?_, fun j q h0 hq => ?_, fun q hq => ?_, fun e => by simp at e⟩
  · rw [List.length_append, List.length_singleton, List.take_add_one, h.kids, hk, kidsAt_app]; rfl
  · rcases Nat.lt_or_ge j l.length with h1 | h1
    · rw [List.getElem?_append_left h1] at hq; exact h.keys j q h0 hq
    · rw [List.getElem?_append_right h1] at hq
      have e : j = l.length := by
        rcases Nat.lt_or_ge 0 (j - l.length) with h2 | h2
        · rw [List.getElem?_eq_none (by simp only [List.length_singleton]; omega)] at hq; cases hq
        · omega
      subst e
      simp at hq; subst hq; exact hkey h0
  · rcases List.mem_append.1 hq with hq | hq
    · have hl : 0 < l.length := List.length_pos_of_mem hq
      rw [he hl]; exact h.shp q hq
    · simp at hq; subst hq; exact hs
/-- Where a node fits, its kids stand where these do. -/
theorem KidsTo.next {N : List NodeX} {a : Nat} {n : NodeX} {l : List Tw} {dd : Nat} (h : KidsTo N a n l dd) (hn : N[a]? = some n) (hl : l.length < n.kids.length) {x : Tw} {root : Bool} {d : Nat} (hx : Shp root d x) (hf : Fit true N a x) :
    ∃ k e, n.kids[l.length]? = some ((a + 1 + Tw.sizes l : Nat) : Int) ∧ Fit true N (a + 1 + Tw.sizes l) k ∧ Shp false e k ∧ (0 < l.length → e = dd ∧ n.keys[l.length - 1]? = some k.least) := by
  obtain ⟨ps, ks⟩ := x
  simp only [Fit] at hf
  obtain ⟨⟨n', e1, e2, e3, e4⟩, h2⟩ := hf
  rw [hn] at e1; cases e1
  have hlen : n.kids.length = ks.length := by rw [e3, kidsAt_len]
  have hfr := h.fit.front h2 (by omega)
  obtain ⟨k, hk⟩ := getL (l := ks) (j := l.length) (by omega)
  have hkf := h2.get hk
  rw [← hfr] at hkf
  have hks : ∃ e, ∀ q ∈ ks, Shp false e q := by
    cases hx with
    | leaf => simp at hk
    | node _ _ h3 => exact ⟨_, h3⟩
  obtain ⟨e, hks⟩ := hks
  refine ⟨k, e, ?_, hkf, hks k (List.mem_of_getElem? hk), fun h0 => ⟨?_, ?_⟩⟩
  · rw [e3, kidsAt_get _ _ _ (by omega), ← hfr]
  · obtain ⟨q, hq⟩ := getL (l := l) (j := 0) h0
    have h5 := h.shp q (List.mem_of_getElem? hq)
    have h6 := hks q (by rw [hfr] at hq; exact List.mem_of_mem_take (List.mem_of_getElem? hq))
    rw [← h5.deep, ← h6.deep]
  · rw [e4 trivial, List.getElem?_map, List.getElem?_drop, show 1 + (l.length - 1) = l.length by omega, hk]; rfl
theorem ev_grow : ∀ n x, (fun g => g.N.length - g.at_) x = n → evFnX tab [(68, cGrow.below (fun g => g.N.length - g.at_) n), (1000013, cGh), (92, (cCopyS 2 RngX.ds)), (70, cWithin), (93, cLeast)] cGrow Try.f68 (body Try.f68) x := by
  rintro M ⟨N, a, root, f, hN, hf, hp⟩ rfl
  replace hN : N.length ≤ 1048576 := hN
  replace hf : N.length ≤ f + a := hf
  replace hp : ∀ n ∈ N, n.ps.length ≤ 1048576 := hp
  conv => whnf
  intro _
  conv => whnf
  refine br2 (fun h1 => ?_) (fun h1 => ?_)
  · have h1' : N.length ≤ a := by
      replace h1 : decide ((a : Int) ≥ (N.length : Int)) = true := h1
      have := of_decide_eq_true h1; omega
    conv => whnf
    refine ⟨⟨rfl, none, 0, 0, false, rfl, fun h => absurd rfl h, fun h => (by cases h), fun _ x d hx hfit => ?_⟩⟩
    have h2 : a + x.size ≤ N.length := hfit.le
    have := x.size_pos
    omega
  have h1' : a < N.length := by
    replace h1 : decide ((a : Int) ≥ (N.length : Int)) = false := h1
    have := of_decide_eq_false h1; omega
  obtain ⟨⟨ps, keys, kids⟩, hn⟩ := getL h1'
  obtain ⟨f, rfl⟩ : ∃ m, f = m + 1 := ⟨f - 1, by omega⟩
  conv => whnf
  refine ⟨Int.natCast_nonneg _, ltI hn, ?_⟩
  conv => whnf
  refine ex2 _ (nthI hn) ?_
  conv => whnf
  intro hk
  replace hk : kids.length ≤ 9223372036854775807 := hk
  conv => whnf
  refine br2 (fun h2 => ?_) (fun h2 => ?_)
  · have h2' : kids = [] := by
      replace h2 : ((kids.length : Int) == 0) = true := h2
      exact List.eq_nil_of_length_eq_zero (by simpa using h2)
    subst h2'
    have hps : ps.length ≤ 1048576 := hp _ (List.mem_of_getElem? hn)
    have leaf : ∀ {b : Bool}, (b = true ↔ ((if root then 1 else 2) ≤ ps.length ∧ ps.length ≤ 4 ∧ keys.length = 0)) → GrowR N a root (f + 1) (some (.mk ps [])) ((a + 1 : Nat) : Int) 1 b := by
      intro b hb
      refine ⟨fun _ => by omega, fun h => ?_, fun h x d hx hfit => ?_⟩
      · obtain ⟨h3, h4, h5⟩ := hb.1 h
        have hk0 : keys = [] := List.eq_nil_of_length_eq_zero h5
        subst hk0
        refine ⟨_, 1, rfl, .leaf h3 h4, by omega, ?_, by simp [Tw.size, Tw.sizes], rfl⟩
        simp only [Fit, FitK, and_true]
        exact ⟨_, hn, rfl, rfl, fun _ => rfl⟩
      · obtain ⟨qs, js⟩ := x
        simp only [Fit] at hfit
        obtain ⟨⟨n', e1, e2, e3, e4⟩, _⟩ := hfit
        rw [hn] at e1; cases e1
        have hjs : js = [] := by
          have := congrArg List.length e3
          rw [kidsAt_len] at this
          exact List.eq_nil_of_length_eq_zero this.symm
        subst hjs
        have e2 : ps = qs := e2
        subst e2
        have e4 : keys = [] := e4 trivial
        subst e4
        cases hx with
        | leaf h3 h4 =>
          have := hb.2 ⟨h3, h4, rfl⟩
          rw [this] at h; cases h
        | node k1 => simp at k1
    conv => whnf
    refine ⟨⟨ps, hps⟩, rfl, ?_⟩
    rintro _ _ ⟨rfl, rfl⟩
    conv => whnf
    have hw : IntKind.i64.wrap ((a : Int) + 1) = ((a + 1 : Nat) : Int) := by rw [w64 (by omega) (by omega)]; omega
    cases root
    all_goals
      conv => whnf
      intro _
      conv => whnf
      repeat ((first | refine rc_i rfl ?_ | refine rc_i (fun _ => rfl) ?_); conv => whnf)
      first | refine ⟨⟨ps.length, 1, 4⟩, rfl, ?_⟩ | refine ⟨⟨ps.length, 2, 4⟩, rfl, ?_⟩
      rintro _ _ ⟨rfl, rfl⟩
      conv => whnf
      repeat ((first | refine rc_i rfl ?_ | refine rc_i (fun _ => rfl) ?_); conv => whnf)
      refine br2 (fun h3 => ?_) (fun h3 => ?_)
      · first | replace h3 : (decide ((1 : Int) ≤ (ps.length : Int)) && decide ((ps.length : Int) ≤ 4)) = true := h3 | replace h3 : (decide ((2 : Int) ≤ (ps.length : Int)) && decide ((ps.length : Int) ≤ 4)) = true := h3
        simp only [Bool.and_eq_true, decide_eq_true_eq] at h3
        conv => whnf
        intro _
        conv => whnf
        repeat ((first | refine rc_i rfl ?_ | refine rc_i (fun _ => rfl) ?_); conv => whnf)
        refine ⟨1, Tw, twE f, twE_len f, ?_⟩
        conv => whnf
        refine ⟨⟨rfl, some (.mk ps []), _, _, _, rfl, ?_⟩⟩
        show GrowR N a _ (f + 1) _ (IntKind.i64.wrap ((a : Int) + 1)) 1 ((keys.length : Int) == 0)
        rw [hw]
        refine leaf ?_
        simp
        constructor
        · intro h; subst h; simp; omega
        · intro h; exact h.2.2
      · first | replace h3 : (decide ((1 : Int) ≤ (ps.length : Int)) && decide ((ps.length : Int) ≤ 4)) = false := h3 | replace h3 : (decide ((2 : Int) ≤ (ps.length : Int)) && decide ((ps.length : Int) ≤ 4)) = false := h3
        simp only [Bool.and_eq_false_iff, decide_eq_false_iff_not] at h3
        conv => whnf
        repeat ((first | refine rc_i rfl ?_ | refine rc_i (fun _ => rfl) ?_); conv => whnf)
        refine ⟨1, Tw, twE f, twE_len f, ?_⟩
        conv => whnf
        refine ⟨⟨rfl, some (.mk ps []), _, _, _, rfl, ?_⟩⟩
        show GrowR N a _ (f + 1) _ (IntKind.i64.wrap ((a : Int) + 1)) 1 false
        rw [hw]
        refine leaf ?_
        simp
        omega
  have h2' : kids ≠ [] := by
    replace h2 : ((kids.length : Int) == 0) = false := h2
    rintro rfl; simp at h2
  have hpos : 0 < kids.length := List.length_pos_iff.2 h2'
  have bad : ∀ {next deep : Int}, ¬ (2 ≤ kids.length ∧ kids.length ≤ 4 ∧ keys.length + 1 = kids.length ∧ ps = []) → GrowR N a root (f + 1) none next deep false := by
    intro next deep hb
    refine ⟨fun h => absurd rfl h, fun h => (by cases h), fun _ x d hx hfit => hb ?_⟩
    obtain ⟨qs, js⟩ := x
    simp only [Fit] at hfit
    obtain ⟨⟨n', e1, e2, e3, e4⟩, _⟩ := hfit
    rw [hn] at e1; cases e1
    have e2 : ps = qs := e2
    subst e2
    have e3 : kids = kidsAt js (a + 1) := e3
    have hl : kids.length = js.length := by rw [e3, kidsAt_len]
    replace e4 : keys = (js.drop 1).map Tw.least := e4 trivial
    cases hx with
    | leaf => simp at hl; exact absurd hl h2'
    | node k1 k2 k3 =>
      refine ⟨by omega, by omega, ?_, rfl⟩
      have := congrArg List.length e4
      simp at this; omega
  conv => whnf
  intro _
  conv => whnf
  refine ⟨⟨kids.length, 2, 4⟩, rfl, ?_⟩
  rintro _ _ ⟨rfl, rfl⟩
  conv => whnf
  have nil0 : ∀ {P : Prop}, P → P := fun h => h
  refine br2 (fun h3 => ?_) (fun h3 => ?_)
  · have h3' : ¬ (2 ≤ kids.length ∧ kids.length ≤ 4) := by
      replace h3 : (!(decide ((2 : Int) ≤ (kids.length : Int)) && decide ((kids.length : Int) ≤ 4))) = true := h3
      simp only [Bool.not_eq_true', Bool.and_eq_false_iff, decide_eq_false_iff_not] at h3
      omega
    conv => whnf
    exact ⟨⟨rfl, none, _, _, _, rfl, bad fun h => h3' ⟨h.1, h.2.1⟩⟩⟩
  have h3' : 2 ≤ kids.length ∧ kids.length ≤ 4 := by
    replace h3 : (!(decide ((2 : Int) ≤ (kids.length : Int)) && decide ((kids.length : Int) ≤ 4))) = false := h3
    simp only [Bool.not_eq_false', Bool.and_eq_true, decide_eq_true_eq] at h3
    omega
  conv => whnf
  intro hkl
  replace hkl : keys.length ≤ 9223372036854775807 := hkl
  conv => whnf
  intro _
  conv => whnf
  have hw4 : IntKind.i64.wrap ((kids.length : Int) - 1) = ((kids.length - 1 : Nat) : Int) := by rw [w64 (by omega) (by omega)]; omega
  refine br2 (fun h4 => ?_) (fun h4 => ?_)
  · have h4' : ¬ keys.length + 1 = kids.length := by
      replace h4 : ((keys.length : Int) != IntKind.i64.wrap ((kids.length : Int) - 1)) = true := h4
      rw [hw4] at h4
      simp at h4; omega
    conv => whnf
    exact ⟨⟨rfl, none, _, _, _, rfl, bad fun h => h4' h.2.2.1⟩⟩
  have h4' : keys.length + 1 = kids.length := by
    replace h4 : ((keys.length : Int) != IntKind.i64.wrap ((kids.length : Int) - 1)) = false := h4
    rw [hw4] at h4
    simp at h4; omega
  conv => whnf
  intro _
  conv => whnf
  refine br2 (fun h5 => ?_) (fun h5 => ?_)
  · have h5' : ps ≠ [] := by
      replace h5 : decide ((ps.length : Int) > 0) = true := h5
      rintro rfl; simp at h5
    conv => whnf
    exact ⟨⟨rfl, none, _, _, _, rfl, bad fun h => h5' h.2.2.2⟩⟩
  have h5' : ps = [] := by
    replace h5 : decide ((ps.length : Int) > 0) = false := h5
    have := of_decide_eq_false h5
    exact List.eq_nil_of_length_eq_zero (by omega)
  subst h5'
  conv => whnf
  refine ⟨[.nlc 576 0 1 1000], ?_⟩
  conv => whnf
  refine ⟨1, Tw, twE f, twE_len f, ?_⟩
  conv => whnf
  intro _
  conv => whnf
  have hw : IntKind.i64.wrap ((a : Int) + 1) = ((a + 1 : Nat) : Int) := by rw [w64 (by omega) (by omega)]; omega
  let S0 : Nat → Nat → Nat → Sl := fun i nx dd => [(88, .lf (.int .i64 i)), (87, .lf (.int .i64 kids.length)), (86, .sl 546 none), (13, .lf (.int .i64 nx)), (14, .lf (.int .i64 dd)), (10, .pt 160 0 0), (11, .pt 576 0 0), (0, .pt 0 0 0)]
  let H0 : List Tw → Hp := fun l => [(160, some (.arr true 3 [[.sl 544 none, .sl 545 none, .sl 546 none]])), (544, some (.row .lent 2 RngX.ds [])), (545, some (.row .lent 1 strE1 keys)), (546, some (.row .lent 1 intE1 kids)),
    (576, some (.arr true 2 [[.lf (.slice none 0 0), .sl 16000 none]])), (16000, some (.row .own 1 (twE f) l)), (0, some (.arr false 1 [[.sl 1 none]])), (1, some (.row .lent 3 NodeX.ds N))]
  refine ⟨fun m s h => ∃ (l : List Tw) (dd : Nat), l.length ≤ kids.length ∧ KidsTo N a ⟨[], keys, kids⟩ l dd ∧ dd ≤ f ∧ m = kids.length - l.length ∧ s = S0 l.length (a + 1 + Tw.sizes l) dd ∧ h = H0 l, kids.length, [(160, 160), (544, 544), (545, 545), (546, 546), (576, 576), (16000, 16000), (0, 0), (1, 1)], S0 0 (a + 1) 0, H0 [],
    ⟨rfl, ⟨rfl, rfl, rfl, ?_, rfl, rfl, rfl, rfl, trivial⟩, rfl, rfl, rfl, rfl, rfl, rfl, rfl, rfl, trivial⟩, ⟨[], 0, Nat.zero_le _, ⟨trivial, rfl, fun j k _ h => by simp at h, fun k h => by simp at h, fun _ => rfl⟩, by omega, rfl, rfl, rfl⟩, ?_⟩
  · show V.lf (.int .i64 (IntKind.i64.wrap ((a : Int) + 1))) = _
    rw [hw]
  rintro m _ _ ⟨l, dd, g1, hK, g2, rfl, rfl, rfl⟩
  conv => whnf
  refine br2 (fun h6 => ?_) (fun h6 => ?_)
  · have hi : l.length < kids.length := by have := of_decide_eq_true h6; omega
    obtain ⟨c, hc⟩ := getL hi
    have hfit : a + 1 + Tw.sizes l ≤ N.length := FitK.le l (a + 1) hK.fit (by omega)
    have fail : ∀ {next deep : Int}, (∀ k e, c = ((a + 1 + Tw.sizes l : Nat) : Int) → Fit true N (a + 1 + Tw.sizes l) k → Shp false e k → (0 < l.length → e = dd ∧ keys[l.length - 1]? = some k.least) → False) → GrowR N a root (f + 1) none next deep false := by
      intro next deep hb
      refine ⟨fun h => absurd rfl h, fun h => (by cases h), fun _ x d hx hfit => ?_⟩
      obtain ⟨k, e, k1, k2, k3, k4⟩ := hK.next hn hi hx hfit
      replace k1 : kids[l.length]? = some ((a + 1 + Tw.sizes l : Nat) : Int) := k1
      rw [hc] at k1
      exact hb k e (Option.some.inj k1) k2 k3 k4
    conv => whnf
    refine ⟨Int.natCast_nonneg _, ltI hc, ?_⟩
    conv => whnf
    refine ex2 _ (nthI hc) ?_
    conv => whnf
    refine br2 (fun h7 => ?_) (fun h7 => ?_)
    · have h7' : c ≠ ((a + 1 + Tw.sizes l : Nat) : Int) := by
        replace h7 : (c != ((a + 1 + Tw.sizes l : Nat) : Int)) = true := h7
        simpa using h7
      conv => whnf
      exact ⟨⟨rfl, none, _, _, _, rfl, fail fun k e h _ _ _ => h7' h⟩⟩
    have h7' : c = ((a + 1 + Tw.sizes l : Nat) : Int) := by
      replace h7 : (c != ((a + 1 + Tw.sizes l : Nat) : Int)) = false := h7
      simpa using h7
    subst h7'
    generalize hnx : a + 1 + Tw.sizes l = nx at *
    conv => whnf
    refine ⟨⟨⟨N, nx, false, f, hN, by omega, hp⟩, (show N.length - nx < N.length - a by omega)⟩, rfl, ?_⟩
    rintro _ _ ⟨rfl, o, next, deep, ok, rfl, gr⟩
    replace gr : GrowR N nx false f o next deep ok := gr
    have hok : o = none → ok = false := fun h => by
      cases ok with
      | false => rfl
      | true => obtain ⟨x, d, h1, _⟩ := gr.yes rfl; rw [h] at h1; cases h1
    rcases o with _ | ⟨us, is⟩
    · obtain rfl := hok rfl
      conv => whnf
      repeat ((first | refine rc_i rfl ?_ | refine rc_i (fun _ => rfl) ?_); conv => whnf)
      exact ⟨⟨rfl, none, _, _, _, rfl, fail fun k e _ k2 k3 _ => gr.no rfl k e k3 k2⟩⟩
    obtain ⟨f, rfl⟩ : ∃ q, f = q + 1 := ⟨f - 1, by have := gr.fuel (by simp); omega⟩
    cases ok with
    | false =>
      conv => whnf
      repeat ((first | refine rc_i rfl ?_ | refine rc_i (fun _ => rfl) ?_); conv => whnf)
      exact ⟨⟨rfl, none, _, _, _, rfl, fail fun k e _ k2 k3 _ => gr.no rfl k e k3 k2⟩⟩
    | true =>
    obtain ⟨x, d, h8, hx, hd, hxf, rfl, rfl⟩ := gr.yes rfl
    cases h8
    have more : (0 < l.length → d = dd) → (0 < l.length → keys[l.length - 1]? = some (Tw.mk us is).least) → KidsTo N a ⟨[], keys, kids⟩ (l ++ [.mk us is]) d := fun h1 h2 =>
      hK.snoc (by rw [hnx]; exact hc) (by rw [hnx]; exact hxf) hx h1 h2
    have uniq : ∀ k e, Fit true N nx k → Shp false e k → k = .mk us is ∧ e = d := fun k e h1 h2 => by
      have := Fit.uniq k _ nx h1 hxf
      subst this
      exact ⟨rfl, by rw [← h2.deep, ← hx.deep]⟩
    have hsz : a + 1 + Tw.sizes (l ++ [.mk us is]) = nx + (Tw.mk us is).size := by rw [Tw.sizes_app, ← hnx]; simp [Tw.sizes]; omega
    have back : ∀ {s' : Sl} {h' : Hp}, KidsTo N a ⟨[], keys, kids⟩ (l ++ [.mk us is]) d →
        Le [(160, 160), (544, 544), (545, 545), (546, 546), (576, 576), (2160, 16000), (0, 0), (1, 1)] (S0 (l.length + 1) (nx + (Tw.mk us is).size) d) (H0 (l ++ [.mk us is])) s' h' →
        ∃ m' ρ s'' h'', m' < kids.length - l.length ∧ Le ρ s'' h'' s' h' ∧ ∃ (l : List Tw) (dd : Nat), l.length ≤ kids.length ∧ KidsTo N a ⟨[], keys, kids⟩ l dd ∧ dd ≤ f + 1 ∧ m' = kids.length - l.length ∧ s'' = S0 l.length (a + 1 + Tw.sizes l) dd ∧ h'' = H0 l := fun h hle =>
      ⟨kids.length - (l.length + 1), _, _, _, by omega, hle, l ++ [.mk us is], d, by simp; omega, h, hd, by simp, by rw [hsz]; simp, rfl⟩
    conv => whnf
    repeat ((first | refine rc_i rfl ?_ | refine rc_i (fun _ => rfl) ?_); conv => whnf)
    refine br2 (fun h9 => ?_) (fun h9 => ?_)
    · have h9' : 0 < l.length := by have := of_decide_eq_true h9; omega
      conv => whnf
      repeat ((first | refine rc_i rfl ?_ | refine rc_i (fun _ => rfl) ?_); conv => whnf)
      refine br2 (fun h10 => ?_) (fun h10 => ?_)
      · have h10' : d ≠ dd := by
          replace h10 : ((d : Int) != (dd : Int)) = true := h10
          simp at h10; omega
        conv => whnf
        repeat ((first | refine rc_i rfl ?_ | refine rc_i (fun _ => rfl) ?_); conv => whnf)
        exact ⟨⟨rfl, none, _, _, _, rfl, fail fun k e _ k2 k3 k4 => h10' (by rw [← (uniq k e k2 k3).2]; exact (k4 h9').1)⟩⟩
      have h10' : d = dd := by
        replace h10 : ((d : Int) != (dd : Int)) = false := h10
        simp at h10; omega
      obtain ⟨z, hz⟩ := getL (l := keys) (j := l.length - 1) (by omega)
      have hw1 : IntKind.i64.wrap ((l.length : Int) - 1) = ((l.length - 1 : Nat) : Int) := by rw [w64 (by omega) (by omega)]; omega
      conv => whnf
      refine ⟨(ixE hw1 hz).1, (ixE hw1 hz).2, ?_⟩
      conv => whnf
      refine ex2 _ (nthE hw1 hz) ?_
      conv => whnf
      refine ⟨⟨f + 1, .mk us is, false, d, hx, hd⟩, rfl, ?_⟩
      rintro _ _ ⟨rfl, rfl⟩
      conv => whnf
      repeat (refine rc_i (by (conv => whnf); first | rfl | exact ⟨(ixE hw1 hz).1, (ixE hw1 hz).2, rfl⟩ | exact ex2 _ (nthE hw1 hz) rfl) ?_; conv => whnf)
      refine br2 (fun h11 => ?_) (fun h11 => ?_)
      · have h11' : z ≠ (Tw.mk us is).least := by
          replace h11 : (!strEq z (Tw.mk us is).least) = true := h11
          simpa [strEq_no] using h11
        conv => whnf
        exact ⟨⟨rfl, none, _, _, _, rfl, fail fun k e _ k2 k3 k4 => h11' (by rw [← (uniq k e k2 k3).1]; have := (k4 h9').2; rw [hz] at this; exact Option.some.inj this)⟩⟩
      · have h11' : z = (Tw.mk us is).least := by
          replace h11 : (!strEq z (Tw.mk us is).least) = false := h11
          simpa [strEq_iff] using h11
        subst h11'
        conv => whnf
        refine ⟨[.mk us is], rfl, ?_, ?_⟩
        · show l.length + 1 ≤ 4294967296; omega
        conv => whnf
        exact back (more (fun _ => h10') (fun _ => hz)) ⟨rfl, ⟨incI hi hk, rfl, rfl, rfl, rfl, rfl, rfl, rfl, trivial⟩, rfl, rfl, rfl, rfl, rfl, rfl, rfl, rfl, trivial⟩
    · have h9' : ¬ 0 < l.length := by have := of_decide_eq_false h9; omega
      conv => whnf
      repeat ((first | refine rc_i rfl ?_ | refine rc_i (fun _ => rfl) ?_); conv => whnf)
      refine ⟨[.mk us is], rfl, ?_, ?_⟩
      · show l.length + 1 ≤ 4294967296; omega
      conv => whnf
      exact back (more (fun h => absurd h h9') (fun h => absurd h h9')) ⟨rfl, ⟨incI hi hk, rfl, rfl, rfl, rfl, rfl, rfl, rfl, trivial⟩, rfl, rfl, rfl, rfl, rfl, rfl, rfl, rfl, trivial⟩
  · have hi : l.length = kids.length := by have := of_decide_eq_false h6; omega
    have hfitl : Fit true N a (.mk [] l) := by
      simp only [Fit]
      refine ⟨⟨_, hn, rfl, ?_, fun _ => ?_⟩, hK.fit⟩
      · have := hK.kids
        rw [hi, List.take_length] at this
        exact this
      · show keys = (l.drop 1).map Tw.least
        apply List.ext_getElem?
        intro j
        rw [List.getElem?_map, List.getElem?_drop]
        rcases Nat.lt_or_ge (1 + j) l.length with h8 | h8
        · obtain ⟨q, hq⟩ := getL (l := l) (j := 1 + j) h8
          have := hK.keys (1 + j) q (by omega) hq
          rw [show 1 + j - 1 = j by omega] at this
          rw [hq]; exact this
        · rw [List.getElem?_eq_none (by omega), List.getElem?_eq_none (by omega)]; rfl
    have hdl : dd ≤ 1048576 := by
      obtain ⟨q, hq⟩ := getL (l := l) (j := 0) (by omega)
      have h8 := (hK.fit.get hq).le
      have h9 := (hK.shp q (List.mem_of_getElem? hq)).deep
      have := q.deep_le
      omega
    have hwd : IntKind.i64.wrap ((dd : Int) + 1) = ((dd + 1 : Nat) : Int) := by rw [w64 (by omega) (by omega)]; omega
    conv => whnf
    refine ⟨2, RngX, RngX.ds, fun _ => rfl, ?_⟩
    conv => whnf
    refine ⟨⟨rfl, some (.mk [] l), _, _, _, rfl, ?_⟩⟩
    show GrowR N a root (f + 1) _ ((a + 1 + Tw.sizes l : Nat) : Int) (IntKind.i64.wrap ((dd : Int) + 1)) true
    refine ⟨fun _ => by omega, fun _ => ⟨_, dd + 1, rfl, .node (by omega) (by omega) hK.shp, by omega, hfitl, ?_, hwd⟩, fun h => by cases h⟩
    simp only [Tw.size]; rw [Nat.add_assoc]
theorem grow_ok : FnOk Try.prog 68 cGrow := fn_rec (fun g => g.N.length - g.at_) fun n hs x hx => fnX_at tab_ok (SOk.cons hs (SOk.cons gh_ok (SOk.cons copyPairs_ok (SOk.cons within_ok (SOk.cons least_ok SOk.nil))))) mixed (fn := Try.f68) (code := body Try.f68) ⟨Try.func68, rfl, by kernel_rfl, by kernel_rfl, by kernel_rfl, by kernel_rfl⟩ (ev_grow n x hx)
end Go.Vm
namespace Go.Vm
open Go.Proofs
set_option maxRecDepth 100000
set_option linter.unusedVariables false
set_option linter.unusedSimpArgs false

/-! The root -/
mutual
theorem Shp.pairs4 : ∀ {b : Bool} {d : Nat} {x : Tw}, Shp b d x → x.all.length ≤ 4 * x.size
  | b, d, .mk ps ks, h => by
    cases h with
    | leaf h1 h2 => simp [Tw.all, Tw.alls, Tw.size, Tw.sizes]; exact h2
    | node h1 h2 h3 =>
      have := Shp.pairs4s ks h3
      simp only [Tw.all, List.append_nil, Tw.size]; omega
theorem Shp.pairs4s : ∀ {d : Nat} (ks : List Tw), (∀ k, k ∈ ks → Shp false d k) → (Tw.alls ks).length ≤ 4 * Tw.sizes ks
  | d, [], h => by simp [Tw.alls]
  | d, k :: ks, h => by
    have h1 := Shp.pairs4 (h k (by simp))
    have h2 := Shp.pairs4s ks (fun q hq => h q (by simp [hq]))
    simp only [Tw.alls, Tw.sizes, List.length_append]; omega
end
structure TreeX where
  N : List NodeX
  f : Nat
  hf : N.length ≤ f
  hN : N.length ≤ 1048576
  hp : ∀ n ∈ N, n.ps.length ≤ 1048576
def treeD (N : List NodeX) : D := .box [.row 3 NodeX.ds N]
/-- What a tree's root is: told by nodes enough levels deep. -/
structure RootR (N : List NodeX) (f : Nat) (o : Option Tw) (deep : Int) (ok : Bool) : Prop where
  fuel : o ≠ none → 1 ≤ f
  yes : ok = true → Vo o ∧ N = layO o ∧ deep = (deepO o : Int) ∧ deepO o ≤ f
  no : ok = false → ¬ TreeP N ∧ o = none
def cRoot : Con := relC TreeX [(.rd, false)] [false, false, false] (fun t => [[treeD t.N]]) (fun t r => ∃ o deep ok, r = [optE t.f o, [.lf (.int .i64 deep)], [.lf (.bool ok)]] ∧ RootR t.N t.f o deep ok)
theorem ev_root : ∀ x, evFnX tab [(68, cGrow), (37, cAll), (69, cPairsOk)] cRoot Try.f33 (body Try.f33) x := by
  rintro ⟨N, f, hf, hN, hp⟩
  replace hf : N.length ≤ f := hf
  replace hN : N.length ≤ 1048576 := hN
  replace hp : ∀ n ∈ N, n.ps.length ≤ 1048576 := hp
  conv => whnf
  intro _
  conv => whnf
  refine br2 (fun h1 => ?_) (fun h1 => ?_)
  · have h1' : N = [] := by
      replace h1 : ((N.length : Int) == 0) = true := h1
      exact List.eq_nil_of_length_eq_zero (by simpa using h1)
    subst h1'
    conv => whnf
    exact ⟨⟨rfl, none, 0, true, rfl, fun h => absurd rfl h, fun _ => ⟨⟨trivial, by simp [allO], fun p hp => by simp [allO] at hp, by simp [allO, Srt]⟩, rfl, rfl, Nat.zero_le _⟩, fun h => by cases h⟩⟩
  have h1' : N ≠ [] := by
    replace h1 : ((N.length : Int) == 0) = false := h1
    rintro rfl; simp at h1
  have hpos : 0 < N.length := List.length_pos_iff.2 h1'
  have bad : (∀ x d, Shp true d x → Fit true N 0 x → x.size = N.length → PairsOkP x.all → False) → ¬ TreeP N := by
    rintro h ⟨o, ho, rfl⟩
    cases o with
    | none => exact h1' rfl
    | some x =>
      obtain ⟨d, hd⟩ := ho.shp
      obtain ⟨e1, e2⟩ := fit_all.2 (show x.lay 0 = x.lay 0 from rfl)
      exact h x d hd e1 e2 ho.ok
  conv => whnf
  refine ⟨⟨N, 0, true, f, hN, hf, hp⟩, rfl, ?_⟩
  rintro _ _ ⟨rfl, o, next, deep, ok, rfl, gr⟩
  replace gr : GrowR N 0 true f o next deep ok := gr
  have hok : o = none → ok = false := fun h => by
    cases ok with
    | false => rfl
    | true => obtain ⟨x, d, h1, _⟩ := gr.yes rfl; rw [h] at h1; cases h1
  obtain ⟨f, rfl⟩ : ∃ q, f = q + 1 := ⟨f - 1, by omega⟩
  rcases o with _ | ⟨us, is⟩
  · obtain rfl := hok rfl
    conv => whnf
    exact ⟨⟨rfl, none, _, _, rfl, fun h => absurd rfl h, fun h => (by cases h), fun _ => ⟨bad fun x d h1 h2 _ _ => gr.no rfl x d h1 h2, rfl⟩⟩⟩
  cases ok with
  | false =>
    conv => whnf
    exact ⟨⟨rfl, none, _, _, rfl, fun h => absurd rfl h, fun h => (by cases h), fun _ => ⟨bad fun x d h1 h2 _ _ => gr.no rfl x d h1 h2, rfl⟩⟩⟩
  | true =>
  obtain ⟨x, d, h8, hx, hd, hxf, rfl, rfl⟩ := gr.yes rfl
  cases h8
  have uniq : ∀ y, Fit true N 0 y → y = .mk us is := fun y h => Fit.uniq y _ 0 h hxf
  conv => whnf
  intro _
  conv => whnf
  refine br2 (fun h2 => ?_) (fun h2 => ?_)
  · have h2' : 0 + (Tw.mk us is).size ≠ N.length := by
      replace h2 : (((0 + (Tw.mk us is).size : Nat) : Int) != (N.length : Int)) = true := h2
      simp at h2; omega
    conv => whnf
    exact ⟨⟨rfl, none, _, _, rfl, fun h => absurd rfl h, fun h => (by cases h), fun _ => ⟨bad fun x d h1 h3 h4 _ => h2' (by rw [← uniq x h3, Nat.zero_add]; exact h4), rfl⟩⟩⟩
  have h2' : (Tw.mk us is).size = N.length := by
    replace h2 : (((0 + (Tw.mk us is).size : Nat) : Int) != (N.length : Int)) = false := h2
    simp at h2; omega
  conv => whnf
  have h4 := hx.pairs4
  refine ⟨2, RngX, RngX.ds, fun _ => rfl, ?_⟩
  conv => whnf
  refine ⟨⟨⟨f + 1, .mk us is, true, d, hx, hd⟩, [], by show 0 + (Tw.mk us is).all.length ≤ 4294967296; omega⟩, rfl, ?_⟩
  rintro _ _ ⟨rfl, rfl⟩
  conv => whnf
  refine ⟨(Tw.mk us is).all, rfl, ?_⟩
  rintro _ _ ⟨rfl, b, rfl, e⟩
  conv => whnf
  replace e : b = true ↔ PairsOkP (Tw.mk us is).all := e
  refine br2 (fun h5 => ?_) (fun h5 => ?_)
  · have h5' : ¬ PairsOkP (Tw.mk us is).all := fun h => by rw [e.2 h] at h5; cases h5
    conv => whnf
    exact ⟨⟨rfl, none, _, _, rfl, fun h => absurd rfl h, fun h => (by cases h), fun _ => ⟨bad fun x d h1 h3 _ h4 => h5' (by rw [← uniq x h3]; exact h4), rfl⟩⟩⟩
  · have h5' : PairsOkP (Tw.mk us is).all := e.1 (by cases b <;> first | rfl | cases h5)
    conv => whnf
    refine ⟨⟨rfl, some (.mk us is), _, _, rfl, fun _ => Nat.le_add_left 1 f, fun _ => ⟨⟨⟨d, hx⟩, h5'⟩, fit_all.1 ⟨hxf, h2'⟩, ?_, ?_⟩, fun h => by cases h⟩⟩
    · show (d : Int) = ((Tw.mk us is).deep : Int); rw [hx.deep]
    · show (Tw.mk us is).deep ≤ f + 1; rw [hx.deep]; exact hd
theorem root_ok : FnOk Try.prog 33 cRoot := fnOk_of fun x => fnX_at tab_ok (SOk.cons grow_ok (SOk.cons all_ok (SOk.cons iPairsOk_ok SOk.nil))) mixed (fn := Try.f33) (code := body Try.f33) ⟨Try.func33, rfl, by kernel_rfl, by kernel_rfl, by kernel_rfl, by kernel_rfl⟩ (ev_root x)
/-- What a tree is called right. -/
def cTreeOk : Con := relC TreeX [(.rd, true)] [false] (fun t => [[.row 3 NodeX.ds t.N]]) (fun t r => ∃ b : Bool, r = [[.lf (.bool b)]] ∧ (b = true ↔ TreeP t.N))
theorem RootR.ok {N : List NodeX} {f : Nat} {o : Option Tw} {deep : Int} {ok : Bool} (h : RootR N f o deep ok) : ok = true ↔ TreeP N := by
  constructor
  · intro e
    obtain ⟨h1, h2, _⟩ := h.yes e
    exact ⟨o, h1, h2⟩
  · intro e
    cases ok with
    | true => rfl
    | false => exact absurd e (h.no rfl).1
theorem ev_iTreeOk : ∀ x, evFnX tab [(33, cRoot)] cTreeOk Try.f48 (body Try.f48) x := by
  rintro ⟨N, f, hf, hN, hp⟩
  conv => whnf
  refine ⟨⟨N, N.length + 1, Nat.le_succ _, hN, hp⟩, rfl, ?_⟩
  rintro _ _ ⟨rfl, o, deep, ok, rfl, rr⟩
  rcases o with _ | ⟨us, is⟩
  all_goals
    conv => whnf
    exact ⟨⟨rfl, ok, rfl, rr.ok⟩⟩
theorem iTreeOk_ok : FnOk Try.prog 48 cTreeOk := fnOk_of fun x => fnX_at tab_ok (SOk.cons root_ok SOk.nil) mixed (fn := Try.f48) (code := body Try.f48) ⟨Try.func48, rfl, by kernel_rfl, by kernel_rfl, by kernel_rfl, by kernel_rfl⟩ (ev_iTreeOk x)
structure PrsX where
  o : Option Tw
  f : Nat
  hf : deepO o ≤ f
  h : ShpO o
  h1 : o ≠ none → 1 ≤ f
  hl : (allO o).length ≤ 4294967296
theorem ev_pairs : ∀ x, evFnX tab [(37, cAll)] (pureC PrsX [(.rd, false)] [false] (fun p => [optE p.f p.o]) (fun p => [[.row 2 RngX.ds (allO p.o)]])) Try.f81 (body Try.f81) x := by
  rintro ⟨o, f, hf, h, h1, hl⟩
  rcases o with _ | ⟨us, is⟩
  · conv => whnf
    refine ⟨2, RngX, RngX.ds, fun _ => rfl, ?_⟩
    conv => whnf
    exact ⟨⟨rfl, rfl⟩⟩
  obtain ⟨f, rfl⟩ : ∃ q, f = q + 1 := ⟨f - 1, by have := h1 (by simp); omega⟩
  obtain ⟨d, hd⟩ := h
  conv => whnf
  refine ⟨2, RngX, RngX.ds, fun _ => rfl, ?_⟩
  conv => whnf
  refine ⟨⟨⟨f + 1, .mk us is, true, d, hd, by rw [← hd.deep]; exact hf⟩, [], by show 0 + (Tw.mk us is).all.length ≤ 4294967296; rw [Nat.zero_add]; exact hl⟩, rfl, ?_⟩
  rintro _ _ ⟨rfl, rfl⟩
  conv => whnf
  exact ⟨⟨rfl, rfl⟩⟩
theorem pairs_ok : FnOk Try.prog 81 (pureC PrsX [(.rd, false)] [false] (fun p => [optE p.f p.o]) (fun p => [[.row 2 RngX.ds (allO p.o)]])) := fnOk_of fun x => fnX_at tab_ok (SOk.cons all_ok SOk.nil) mixed (fn := Try.f81) (code := body Try.f81) ⟨Try.func81, rfl, by kernel_rfl, by kernel_rfl, by kernel_rfl, by kernel_rfl⟩ (ev_pairs x)
/-- All pairs of a tree; none where it is not right. -/
structure AllR (N : List NodeX) (l : List RngX) : Prop where
  yes : ∀ o, Vo o → N = layO o → l = allO o
  no : ¬ TreeP N → l = []
def cTreeAll : Con := relC TreeX [(.rd, true)] [false] (fun t => [[.row 3 NodeX.ds t.N]]) (fun t r => ∃ l, r = [[.row 2 RngX.ds l]] ∧ AllR t.N l)
theorem ev_iTreeAll : ∀ x, evFnX tab [(33, cRoot), (81, (pureC PrsX [(.rd, false)] [false] (fun p => [optE p.f p.o]) (fun p => [[.row 2 RngX.ds (allO p.o)]])))] cTreeAll Try.f50 (body Try.f50) x := by
  rintro ⟨N, f, hf, hN, hp⟩
  conv => whnf
  refine ⟨⟨N, N.length + 1, Nat.le_succ _, hN, hp⟩, rfl, ?_⟩
  rintro _ _ ⟨rfl, o, deep, ok, rfl, rr⟩
  replace rr : RootR N (N.length + 1) o deep ok := rr
  cases ok with
  | false =>
    obtain ⟨h1, rfl⟩ := rr.no rfl
    conv => whnf
    refine ⟨2, RngX, RngX.ds, fun _ => rfl, ?_⟩
    conv => whnf
    exact ⟨⟨rfl, [], rfl, fun o ho e => absurd ⟨o, ho, e⟩ h1, fun _ => rfl⟩⟩
  | true =>
    obtain ⟨h1, h2, h3, h4⟩ := rr.yes rfl
    have hl := h1.ok.len
    rcases o with _ | ⟨us, is⟩
    all_goals
      conv => whnf
      first | refine ⟨⟨none, N.length + 1, h4, h1.shp, rr.fuel, by omega⟩, rfl, ?_⟩ | refine ⟨⟨some (.mk us is), N.length + 1, h4, h1.shp, rr.fuel, by omega⟩, rfl, ?_⟩
      rintro _ _ ⟨rfl, rfl⟩
      conv => whnf
      refine ⟨⟨rfl, _, rfl, fun o' ho' e => ?_, fun h => absurd ⟨_, h1, h2⟩ h⟩⟩
      rw [← layO_inj (h2.symm.trans e)]; rfl
theorem iTreeAll_ok : FnOk Try.prog 50 cTreeAll := fnOk_of fun x => fnX_at tab_ok (SOk.cons root_ok (SOk.cons pairs_ok SOk.nil)) mixed (fn := Try.f50) (code := body Try.f50) ⟨Try.func50, rfl, by kernel_rfl, by kernel_rfl, by kernel_rfl, by kernel_rfl⟩ (ev_iTreeAll x)
end Go.Vm
namespace Go.Vm
open Go.Proofs
set_option maxRecDepth 100000
set_option linter.unusedVariables false
set_option linter.unusedSimpArgs false

end Go.Vm
namespace Go.Vm
open Go.Proofs
set_option maxRecDepth 100000
set_option linter.unusedVariables false
set_option linter.unusedSimpArgs false

structure CurX where
  b : List UInt8
  i : Int
  h : Int
  hb : b.length ≤ 1048576
  h1 : 0 ≤ i
  h2 : i ≤ b.length
  h3 : -9223372036854775808 ≤ h
  h4 : h ≤ 9223372036854775807
def CurX.d (c : CurX) : D := .box [.sh (.row 1 encB c.b), .lf (.int .i64 c.i), .lf (.int .i64 c.h)]
theorem ev_sKeyOk : ∀ x, evFnX tab [] cKeyOk Try.f26 (body Try.f26) x := by
  intro k
  repeat' ((conv => whnf); refine br2 (fun h => ?_) (fun h => ?_))
  all_goals (conv => whnf)
  all_goals refine ⟨⟨rfl, ?_⟩⟩
  · show _ = [[D.lf (.bool (keyOkB k))]]
    have h1 := of_decide_eq_true h
    unfold keyOkB
    rw [show decide (1 ≤ k.size) = true from decide_eq_true (by omega), Bool.true_and]
    congr 4
    exact decide_eq_decide.2 (by omega)
  · show _ = [[D.lf (.bool (keyOkB k))]]
    have h1 := of_decide_eq_false h
    unfold keyOkB
    rw [show decide (1 ≤ k.size) = false from decide_eq_false (by omega), Bool.false_and]
theorem sKeyOk_ok : FnOk Try.prog 26 cKeyOk := fnOk_of fun x => fnX_at tab_ok (SOk.nil) mixed (fn := Try.f26) (code := body Try.f26) ⟨Try.func26, rfl, by kernel_rfl, by kernel_rfl, by kernel_rfl, by kernel_rfl⟩ (ev_sKeyOk x)
end Go.Vm
namespace Go.Vm
open Go.Proofs
set_option maxRecDepth 100000
set_option linter.unusedVariables false
set_option linter.unusedSimpArgs false

/-! A sub: a leaf's pairs or a branch's kids, told n levels deep -/
def subE : Nat → Tw → List D
  | 0, _ => [.dead, .dead, .dead]
  | n + 1, .mk ps ks => [.lf (.bool ks.isEmpty), .row 2 RngX.ds ps, .row 3 (subE n) ks]
theorem subE_len (n : Nat) (x : Tw) : (subE n x).length = 3 := by cases n <;> cases x <;> rfl
theorem ev_sValOk : ∀ x, evFnX tab [] (cS1 valOkB) Try.f27 (body Try.f27) x := by
  intro s
  conv => whnf
  refine ⟨⟨rfl, ?_⟩⟩
  show _ = [[D.lf (.bool (valOkB s))]]
  unfold valOkB
  congr 4
  exact decide_eq_decide.2 (by omega)
theorem sValOk_ok : FnOk Try.prog 27 (cS1 valOkB) := fnOk_of fun x => fnX_at tab_ok (SOk.nil) mixed (fn := Try.f27) (code := body Try.f27) ⟨Try.func27, rfl, by kernel_rfl, by kernel_rfl, by kernel_rfl, by kernel_rfl⟩ (ev_sValOk x)
theorem ev_sPairsOk : ∀ x, evFnX tab [(26, cKeyOk), (27, (cS1 valOkB))] cPairsOk Try.f61 (body Try.f61) x := by
  intro (l : List RngX)
  conv => whnf
  intro hl
  replace hl : l.length ≤ 9223372036854775807 := hl
  conv => whnf
  refine br2 (fun h1 => ?_) (fun h1 => ?_)
  · have h1' : 200 < l.length := by
      replace h1 : decide ((l.length : Int) > 200) = true := h1
      have := of_decide_eq_true h1; omega
    conv => whnf
    exact ⟨⟨rfl, false, rfl, fun h => (by cases h), fun h => absurd h.len (by omega)⟩⟩
  have h1' : l.length ≤ 200 := by
    replace h1 : decide ((l.length : Int) > 200) = false := h1
    have := of_decide_eq_false h1; omega
  have fin : ∀ {b : Bool}, (b = true ↔ (∀ p ∈ l, kvOkB p = true) ∧ Srt l) → (b = true ↔ PairsOkP l) := fun h =>
    h.trans ⟨fun h => ⟨h1', h.1, h.2⟩, fun h => ⟨h.ok, h.srt⟩⟩
  conv => whnf
  intro _
  conv => whnf
  let S0 : Nat → Sl := fun i => [(10, .lf (.int .i64 i)), (9, .lf (.int .i64 l.length)), (8, .sl 0 none), (0, .sl 0 none)]
  let H0 : Hp := [(0, some (.row .lent 2 RngX.ds l))]
  refine ⟨fun m s h => ∃ i : Nat, i ≤ l.length ∧ RiseTo l i ∧ m = l.length - i ∧ s = S0 i ∧ h = H0, l.length, [(0, 0)], S0 0, H0, ⟨rfl, ⟨rfl, rfl, rfl, rfl, trivial⟩, rfl, trivial⟩, ⟨0, by omega, fun j y h => by omega, by omega, rfl, rfl⟩, ?_⟩
  rintro m _ _ ⟨i, g1, g2, rfl, rfl, rfl⟩
  conv => whnf
  refine br2 (fun h5 => ?_) (fun h5 => ?_)
  · have hi : i < l.length := by have := of_decide_eq_true h5; omega
    obtain ⟨y, hy⟩ := getL hi
    have no : ¬ (kvOkB y = true ∧ ∀ z, 0 < i → l[i - 1]? = some z → strLt z.lo y.lo = true) → (false = true ↔ (∀ p ∈ l, kvOkB p = true) ∧ Srt l) := fun h =>
      ⟨fun e => (by cases e), fun e => absurd (riseTo_all.2 e i y hi hy) h⟩
    have yes : (kvOkB y = true ∧ ∀ z, 0 < i → l[i - 1]? = some z → strLt z.lo y.lo = true) → RiseTo l (i + 1) := fun h j z hj hz => by
      rcases Nat.lt_or_ge j i with h1 | h1
      · exact g2 j z h1 hz
      · obtain rfl : j = i := by omega
        rw [hy] at hz; cases hz; exact h
    have kv : kvOkB y = (keyOkB y.lo && valOkB y.hi) := rfl
    have hw1 : 0 < i → IntKind.i64.wrap ((i : Int) - 1) = ((i - 1 : Nat) : Int) := fun h => by rw [w64 (by omega) (by omega)]; omega
    have back : ∀ {s' : Sl} {h' : Hp}, RiseTo l (i + 1) → Le [(0, 0)] (S0 (i + 1)) H0 s' h' → ∃ m' ρ s'' h'', m' < l.length - i ∧ Le ρ s'' h'' s' h' ∧ ∃ i, i ≤ l.length ∧ RiseTo l i ∧ m' = l.length - i ∧ s'' = S0 i ∧ h'' = H0 := fun h hle =>
      ⟨l.length - (i + 1), [(0, 0)], S0 (i + 1), H0, by omega, hle, i + 1, by omega, h, rfl, rfl, rfl⟩
    conv => whnf
    refine ⟨Int.natCast_nonneg _, ltI hy, ?_⟩
    conv => whnf
    refine ex2 _ (nthI hy) ?_
    conv => whnf
    refine ⟨y.lo, rfl, ?_⟩
    rintro _ _ ⟨rfl, rfl⟩
    conv => whnf
    repeat ((first | refine rc_i rfl ?_ | refine rc_i (fun _ => rfl) ?_); conv => whnf)
    refine br2 (fun h6 => ?_) (fun h6 => ?_)
    · have h6' : keyOkB y.lo = false := by
        replace h6 : (!keyOkB y.lo) = true := h6
        simpa using h6
      conv => whnf
      repeat ((first | refine rc_i rfl ?_ | refine rc_i (fun _ => rfl) ?_); conv => whnf)
      exact ⟨⟨rfl, false, rfl, fin (no fun h => by rw [kv, h6'] at h; cases h.1)⟩⟩
    have h6' : keyOkB y.lo = true := by
      replace h6 : (!keyOkB y.lo) = false := h6
      simpa using h6
    conv => whnf
    refine ⟨y.hi, rfl, ?_⟩
    rintro _ _ ⟨rfl, rfl⟩
    conv => whnf
    repeat ((first | refine rc_i rfl ?_ | refine rc_i (fun _ => rfl) ?_); conv => whnf)
    refine br2 (fun h7 => ?_) (fun h7 => ?_)
    · have h7' : valOkB y.hi = false := by
        replace h7 : (!valOkB y.hi) = true := h7
        simpa using h7
      conv => whnf
      repeat ((first | refine rc_i rfl ?_ | refine rc_i (fun _ => rfl) ?_); conv => whnf)
      exact ⟨⟨rfl, false, rfl, fin (no fun h => by rw [kv, h6', h7'] at h; cases h.1)⟩⟩
    have h7' : kvOkB y = true := by
      replace h7 : (!valOkB y.hi) = false := h7
      rw [kv, h6']; simpa using h7
    conv => whnf
    repeat ((first | refine rc_i rfl ?_ | refine rc_i (fun _ => rfl) ?_); conv => whnf)
    refine br2 (fun h8 => ?_) (fun h8 => ?_)
    · have h8' : 0 < i := by have := of_decide_eq_true h8; omega
      obtain ⟨z, hz⟩ := getL (l := l) (j := i - 1) (by omega)
      conv => whnf
      refine ⟨(ixE (hw1 h8') hz).1, (ixE (hw1 h8') hz).2, ?_⟩
      conv => whnf
      refine ex2 _ (nthE (hw1 h8') hz) ?_
      conv => whnf
      repeat (refine rc_i (by (conv => whnf); first | rfl | exact ⟨(ixE (hw1 h8') hz).1, (ixE (hw1 h8') hz).2, rfl⟩ | exact ex2 _ (nthE (hw1 h8') hz) rfl) ?_; conv => whnf)
      refine br2 (fun h9 => ?_) (fun h9 => ?_)
      · have h9' : strLt z.lo y.lo = false := by
          replace h9 : (!strLt z.lo y.lo) = true := h9
          simpa using h9
        conv => whnf
        exact ⟨⟨rfl, false, rfl, fin (no fun h => by rw [h.2 z h8' hz] at h9'; cases h9')⟩⟩
      · have h9' : strLt z.lo y.lo = true := by
          replace h9 : (!strLt z.lo y.lo) = false := h9
          simpa using h9
        conv => whnf
        exact back (yes ⟨h7', fun z' _ hz' => by rw [hz] at hz'; cases hz'; exact h9'⟩) ⟨rfl, ⟨incI hi hl, rfl, rfl, rfl, trivial⟩, rfl, trivial⟩
    · have h8' : ¬ 0 < i := by have := of_decide_eq_false h8; omega
      conv => whnf
      exact back (yes ⟨h7', fun z' h0 _ => absurd h0 h8'⟩) ⟨rfl, ⟨incI hi hl, rfl, rfl, rfl, trivial⟩, rfl, trivial⟩
  · have hi : i = l.length := by have := of_decide_eq_false h5; omega
    subst hi
    conv => whnf
    exact ⟨⟨rfl, true, rfl, fin ⟨fun _ => riseTo_all.1 g2, fun _ => rfl⟩⟩⟩
theorem sPairsOk_ok : FnOk Try.prog 61 cPairsOk := fnOk_of fun x => fnX_at tab_ok (SOk.cons sKeyOk_ok (SOk.cons sValOk_ok SOk.nil)) mixed (fn := Try.f61) (code := body Try.f61) ⟨Try.func61, rfl, by kernel_rfl, by kernel_rfl, by kernel_rfl, by kernel_rfl⟩ (ev_sPairsOk x)
theorem ev_sLeast : ∀ n x, (fun t => t.d) x = n → evFnX tab [(88, (pureC TwX [(.rd, true)] [false] (fun t => [subE t.n t.x]) (fun t => [[.lf (.string t.x.least)]])).below (fun t => t.d) n)] (pureC TwX [(.rd, true)] [false] (fun t => [subE t.n t.x]) (fun t => [[.lf (.string t.x.least)]])) Try.f88 (body Try.f88) x := by
  rintro N ⟨n, ⟨ps, ks⟩, b, d, h, hn⟩ rfl
  have hpos := h.pos
  obtain ⟨n, rfl⟩ : ∃ m, n = m + 1 := ⟨n - 1, by omega⟩
  cases h with
  | leaf h1 h2 =>
    obtain ⟨y, hy⟩ : ∃ y, ps[0]? = some y := getL (by cases b <;> simp at h1 <;> omega)
    conv => whnf
    intro _
    conv => whnf
    refine br2 (fun h3 => ?_) (fun h3 => ?_)
    · conv => whnf
      refine ⟨by decide, ltI hy, ?_⟩
      conv => whnf
      refine ex2 _ (nthI hy) ?_
      conv => whnf
      refine ⟨⟨rfl, ?_⟩⟩
      show [[D.lf (.string y.lo)]] = [[D.lf (.string (headKey ps))]]
      cases ps with
      | nil => simp at hy
      | cons c cs => cases hy; rfl
    · exfalso
      have h3' := of_decide_eq_false h3
      have := (List.getElem?_eq_some_iff.1 hy).1
      omega
  | node h1 h2 h3 =>
    obtain ⟨k, ks, rfl⟩ : ∃ k r, ks = k :: r := by cases ks with | nil => simp at h1 | cons k r => exact ⟨k, r, rfl⟩
    rename_i d
    have hks := h3 k (by simp)
    have hp := hks.pos
    obtain ⟨n, rfl⟩ : ∃ m, n = m + 1 := ⟨n - 1, by omega⟩
    obtain ⟨us, is⟩ := k
    conv => whnf
    intro _
    conv => whnf
    refine br2 (fun h4 => ?_) (fun h4 => ?_)
    · conv => whnf
      refine ⟨by decide, (show (0 : Int) < (((Tw.mk us is :: ks).length : Nat) : Int) by simp), ?_⟩
      conv => whnf
      refine ⟨⟨⟨n + 1, .mk us is, false, d, hks, by omega⟩, Nat.lt_succ_self _⟩, rfl, ?_⟩
      rintro _ _ ⟨rfl, rfl⟩
      conv => whnf
      exact ⟨⟨rfl, rfl⟩⟩
    · exfalso
      have h4' := of_decide_eq_false h4
      replace h4' : ¬ (((Tw.mk us is :: ks).length : Nat) : Int) > 0 := h4'
      simp at h4'
theorem sLeast_ok : FnOk Try.prog 88 (pureC TwX [(.rd, true)] [false] (fun t => [subE t.n t.x]) (fun t => [[.lf (.string t.x.least)]])) := fn_rec (fun t => t.d) fun n hs x hx => fnX_at tab_ok (SOk.cons hs (SOk.nil)) mixed (fn := Try.f88) (code := body Try.f88) ⟨Try.func88, rfl, by kernel_rfl, by kernel_rfl, by kernel_rfl, by kernel_rfl⟩ (ev_sLeast n x hx)
end Go.Vm
namespace Go.Vm
open Go.Proofs
set_option maxRecDepth 100000
set_option linter.unusedVariables false
set_option linter.unusedSimpArgs false

structure LayX where
  t : TwX
  N : List NodeX
  hl : N.length + t.x.size ≤ 4194304
def cSLay : Con := pureC LayX [(.take, false), (.rd, true)] [false] (fun a => [[.row 3 NodeX.ds a.N], subE a.t.n a.t.x]) (fun a => [[.row 3 NodeX.ds (a.N ++ a.t.x.lay a.N.length)]])
theorem Tw.lays_take {ks : List Tw} {i a : Nat} {k : Tw} (h : ks[i]? = some k) : Tw.lays (ks.take (i + 1)) a = Tw.lays (ks.take i) a ++ k.lay (a + Tw.sizes (ks.take i)) := by
  rw [List.take_add_one, h, Tw.lays_app]; simp [Tw.lays]
theorem kidsAt_take {ks : List Tw} {i a : Nat} {k : Tw} (h : ks[i]? = some k) : kidsAt (ks.take (i + 1)) a = kidsAt (ks.take i) a ++ [((a + Tw.sizes (ks.take i) : Nat) : Int)] := by
  rw [List.take_add_one, h, kidsAt_app]; rfl
theorem Tw.sizes_take {ks : List Tw} {i : Nat} {k : Tw} (h : ks[i]? = some k) : Tw.sizes (ks.take (i + 1)) = Tw.sizes (ks.take i) + k.size ∧ Tw.sizes (ks.take i) + k.size ≤ Tw.sizes ks := by
  constructor
  · rw [List.take_add_one, h, Tw.sizes_app]; simp [Tw.sizes]
  · conv => rhs; rw [at_split h]
    rw [Tw.sizes_app]; simp [Tw.sizes]
theorem leasts_take {ks : List Tw} {i : Nat} {k : Tw} (h : ks[i]? = some k) (hi : 0 < i) : ((ks.take (i + 1)).drop 1).map Tw.least = ((ks.take i).drop 1).map Tw.least ++ [k.least] := by
  rw [List.take_add_one, h, List.drop_append_of_le_length (by rw [List.length_take]; have := (List.getElem?_eq_some_iff.1 h).1; omega), List.map_append]; rfl
theorem leasts_take0 {ks : List Tw} : ((ks.take (0 + 1)).drop 1).map Tw.least = [] := by cases ks <;> simp
theorem ev_sLay : ∀ n x, (fun a => a.t.d) x = n → evFnX tab [(62, cSLay.below (fun a => a.t.d) n), (1000007, cGh), (88, (pureC TwX [(.rd, true)] [false] (fun t => [subE t.n t.x]) (fun t => [[.lf (.string t.x.least)]])))] cSLay Try.f62 (body Try.f62) x := by
  rintro M ⟨⟨n, x, b, d, h, hn⟩, N, hl⟩ rfl
  have hpos := h.pos
  obtain ⟨n, rfl⟩ : ∃ m, n = m + 1 := ⟨n - 1, by omega⟩
  obtain ⟨ps, ks⟩ := x
  replace hl : N.length + (1 + Tw.sizes ks) ≤ 4194304 := hl
  replace hn : d ≤ n + 1 := hn
  have hps : ps.length ≤ 4 := by cases h <;> simp_all
  have hk4 : ks.length ≤ 4 := by cases h <;> simp_all
  have hkid : ∀ k ∈ ks, ∃ d', d' < d ∧ Shp false d' k := by
    intro k hk
    cases h with
    | leaf => simp at hk
    | node k1 k2 k3 => exact ⟨_, Nat.lt_succ_self _, k3 k hk⟩
  conv => whnf
  intro _
  conv => whnf
  refine ⟨2, RngX, RngX.ds, fun _ => rfl, ?_⟩
  conv => whnf
  refine ⟨1, ByteArray, strE1, fun _ => rfl, ?_⟩
  conv => whnf
  refine ⟨1, Int, intE1, fun _ => rfl, ?_⟩
  conv => whnf
  refine ⟨[⟨[], [], []⟩], rfl, ?_, ?_⟩
  · show N.length + 1 ≤ 4294967296; omega
  conv => whnf
  refine br2 (fun h3 => ?_) (fun h3 => ?_)
  · obtain rfl : ks = [] := by cases ks with | nil => rfl | cons k r => cases h3
    conv => whnf
    refine ⟨true, ?_⟩
    conv => whnf
    refine ⟨RngX, RngX.ds, [], fun _ => rfl, rfl, ?_⟩
    conv => whnf
    refine ⟨fun _ => rfl, ps, rfl, ?_, ?_⟩
    · show 0 + ps.length ≤ 4294967296; omega
    conv => whnf
    have hy : (N ++ [(⟨[], [], []⟩ : NodeX)])[N.length]? = some ⟨[], [], []⟩ := by simp
    refine ⟨Int.natCast_nonneg _, ltI hy, ?_⟩
    conv => whnf
    refine ex2 _ (nthI hy) ?_
    conv => whnf
    refine ⟨⟨ps, [], []⟩, rfl, ?_⟩
    conv => whnf
    refine ⟨⟨rfl, ?_⟩⟩
    show [[D.row 3 NodeX.ds ((N ++ [(⟨[], [], []⟩ : NodeX)]).set N.length ⟨ps, [], []⟩)]] = [[D.row 3 NodeX.ds (N ++ (Tw.mk ps []).lay N.length)]]
    simp [Tw.lay, Tw.lays, kidsAt]
  cases h with
  | leaf => exact absurd h3 (by simp)
  | node k1 k2 k3 =>
  rename_i d
  conv => whnf
  refine ⟨[.nlc 96 0 1 1000, .nlc 96 0 2 1001], ?_⟩
  conv => whnf
  refine ⟨1, ByteArray, strE1, fun _ => rfl, ?_⟩
  conv => whnf
  refine ⟨1, Int, intE1, fun _ => rfl, ?_⟩
  conv => whnf
  intro _
  conv => whnf
  let S0 : Nat → Sl := fun i => [(29, .lf (.int .i64 i)), (28, .lf (.int .i64 ks.length)), (27, .sl 17 none), (6, .pt 96 0 0), (3, .pt 48 0 0), (5, .lf (.int .i64 N.length)), (0, .sl 208 none)]
  let L : Nat → List NodeX := fun i => N ++ [⟨[], [], []⟩] ++ Tw.lays (ks.take i) (N.length + 1)
  let H0 : Nat → Hp := fun i => [(208, some (.row .own 3 NodeX.ds (L i))), (96, some (.arr true 3 [[.lf (.slice none 0 0), .sl 16000 none, .sl 16016 none]])),
    (16000, some (.row .own 1 strE1 (((ks.take i).drop 1).map Tw.least))), (16016, some (.row .own 1 intE1 (kidsAt (ks.take i) (N.length + 1)))),
    (48, some (.arr true 3 [[.lf (.bool ks.isEmpty), .sl 16 none, .sl 17 none]])), (16, some (.row .lent 2 RngX.ds [])), (17, some (.row .lent 3 (subE n) ks))]
  have hL : ∀ i, (L i).length = N.length + 1 + Tw.sizes (ks.take i) := fun i => by simp [L, Tw.lays_len]; omega
  refine ⟨fun m s h => ∃ i : Nat, i ≤ ks.length ∧ m = ks.length - i ∧ s = S0 i ∧ h = H0 i, ks.length, [(208, 208), (96, 96), (16000, 16000), (16016, 16016), (48, 48), (16, 16), (17, 17)], S0 0, H0 0,
    ⟨rfl, ⟨rfl, rfl, rfl, rfl, rfl, rfl, rfl, trivial⟩, ?_, rfl, rfl, rfl, rfl, rfl, rfl, trivial⟩, ⟨0, by omega, rfl, rfl, rfl⟩, ?_⟩
  · show _ = some (Ob.row Kind.own 3 NodeX.ds (L 0))
    simp [L, Tw.lays]; rfl
  rintro m _ _ ⟨i, g1, rfl, rfl, rfl⟩
  conv => whnf
  refine br2 (fun h5 => ?_) (fun h5 => ?_)
  · have hi : i < ks.length := by have := of_decide_eq_true h5; omega
    obtain ⟨k, hk⟩ := getL hi
    obtain ⟨d', hd, hks⟩ := hkid k (List.mem_of_getElem? hk)
    have hp := hks.pos
    obtain ⟨z1, z2⟩ := Tw.sizes_take hk
    have hL1 : L (i + 1) = L i ++ k.lay (L i).length := by
      rw [hL]; simp only [L, Tw.lays_take hk, List.append_assoc]
    have hK1 : kidsAt (ks.take (i + 1)) (N.length + 1) = kidsAt (ks.take i) (N.length + 1) ++ [((L i).length : Int)] := by rw [kidsAt_take hk, hL]
    have hlen := hL i
    obtain ⟨us, is⟩ := k
    obtain ⟨n', rfl⟩ : ∃ q, n = q + 1 := ⟨n - 1, by omega⟩
    conv => whnf
    intro _
    conv => whnf
    refine ⟨[((L i).length : Int)], rfl, ?_, ?_⟩
    · show (kidsAt (ks.take i) (N.length + 1)).length + 1 ≤ 4294967296
      rw [kidsAt_len, List.length_take]; omega
    conv => whnf
    have step : ∀ {s' : Sl} {h' : Hp} (ρ : List (Nat × Nat)), Le ρ (S0 (i + 1)) (H0 (i + 1)) s' h' → ∃ m' ρ s'' h'', m' < ks.length - i ∧ Le ρ s'' h'' s' h' ∧ ∃ i, i ≤ ks.length ∧ m' = ks.length - i ∧ s'' = S0 i ∧ h'' = H0 i := fun ρ hle =>
      ⟨ks.length - (i + 1), ρ, _, _, by omega, hle, i + 1, by omega, rfl, rfl, rfl⟩
    have hw := incI hi (show ks.length ≤ 9223372036854775807 by omega)
    refine br2 (fun h6 => ?_) (fun h6 => ?_)
    · have h6' : 0 < i := by have := of_decide_eq_true h6; omega
      conv => whnf
      refine ⟨Int.natCast_nonneg _, ltI hk, ?_⟩
      conv => whnf
      refine ex2 _ (nthI hk) ?_
      conv => whnf
      refine ⟨⟨n' + 1, .mk us is, false, d', hks, by omega⟩, rfl, ?_⟩
      rintro _ _ ⟨rfl, rfl⟩
      conv => whnf
      repeat ((first | refine rc_i rfl ?_ | refine rc_i (fun _ => rfl) ?_); conv => whnf)
      refine ⟨[(Tw.mk us is).least], rfl, ?_, ?_⟩
      · show (((ks.take i).drop 1).map Tw.least).length + 1 ≤ 4294967296
        simp; omega
      conv => whnf
      refine ⟨Int.natCast_nonneg _, ltI hk, ?_⟩
      conv => whnf
      refine ex2 _ (nthI hk) ?_
      conv => whnf
      refine ⟨⟨⟨⟨n' + 1, .mk us is, false, d', hks, by omega⟩, L i, (show (L i).length + (Tw.mk us is).size ≤ 4194304 by omega)⟩, hd⟩, rfl, ?_⟩
      rintro _ _ ⟨rfl, rfl⟩
      conv => whnf
      refine step [(928, 208), (96, 96), (800, 16000), (592, 16016), (48, 48), (16, 16), (17, 17)] ⟨rfl, ⟨hw, rfl, rfl, rfl, rfl, rfl, rfl, trivial⟩, ?_, rfl, ?_, ?_, rfl, rfl, rfl, trivial⟩
      · show _ = some (Ob.row Kind.own 3 NodeX.ds (L (i + 1)))
        rw [hL1]; rfl
      · show _ = some (Ob.row Kind.own 1 strE1 (((ks.take (i + 1)).drop 1).map Tw.least))
        rw [leasts_take hk h6']; rfl
      · show _ = some (Ob.row Kind.own 1 intE1 (kidsAt (ks.take (i + 1)) (N.length + 1)))
        rw [hK1]; rfl
    · have h6' : i = 0 := by have := of_decide_eq_false h6; omega
      subst h6'
      conv => whnf
      refine ⟨Int.natCast_nonneg _, ltI hk, ?_⟩
      conv => whnf
      refine ex2 _ (nthI hk) ?_
      conv => whnf
      refine ⟨⟨⟨⟨n' + 1, .mk us is, false, d', hks, by omega⟩, L 0, (show (L 0).length + (Tw.mk us is).size ≤ 4194304 by omega)⟩, hd⟩, rfl, ?_⟩
      rintro _ _ ⟨rfl, rfl⟩
      conv => whnf
      refine step [(928, 208), (96, 96), (16000, 16000), (592, 16016), (48, 48), (16, 16), (17, 17)] ⟨rfl, ⟨hw, rfl, rfl, rfl, rfl, rfl, rfl, trivial⟩, ?_, rfl, ?_, ?_, rfl, rfl, rfl, trivial⟩
      · show _ = some (Ob.row Kind.own 3 NodeX.ds (L (0 + 1)))
        rw [hL1]; rfl
      · show _ = some (Ob.row Kind.own 1 strE1 (((ks.take (0 + 1)).drop 1).map Tw.least))
        rw [leasts_take0]; rfl
      · show _ = some (Ob.row Kind.own 1 intE1 (kidsAt (ks.take (0 + 1)) (N.length + 1)))
        rw [hK1]; rfl
  · have hi : i = ks.length := by have := of_decide_eq_false h5; omega
    subst hi
    have hy : (L ks.length)[N.length]? = some ⟨[], [], []⟩ := by simp [L]
    conv => whnf
    refine ⟨Int.natCast_nonneg _, ltI hy, ?_⟩
    conv => whnf
    refine ex2 _ (nthI hy) ?_
    conv => whnf
    refine ⟨2, RngX, RngX.ds, fun _ => rfl, ?_⟩
    conv => whnf
    refine ⟨⟨[], (ks.drop 1).map Tw.least, kidsAt ks (N.length + 1)⟩, ?_, ?_⟩
    · show [D.row 2 RngX.ds [], .row 1 strE1 ((ks.drop 1).map Tw.least), .row 1 intE1 (kidsAt ks (N.length + 1))] = [D.row 2 RngX.ds [], .row 1 strE1 (((ks.take ks.length).drop 1).map Tw.least), .row 1 intE1 (kidsAt (ks.take ks.length) (N.length + 1))]
      rw [List.take_length]
    conv => whnf
    refine ⟨⟨rfl, ?_⟩⟩
    show [[D.row 3 NodeX.ds ((L ks.length).set N.length ⟨[], (ks.drop 1).map Tw.least, kidsAt ks (N.length + 1)⟩)]] = [[D.row 3 NodeX.ds (N ++ (Tw.mk [] ks).lay N.length)]]
    simp [L, Tw.lay]
theorem sLay_ok : FnOk Try.prog 62 cSLay := fn_rec (fun a => a.t.d) fun n hs x hx => fnX_at tab_ok (SOk.cons hs (SOk.cons gh_ok (SOk.cons sLeast_ok SOk.nil))) mixed (fn := Try.f62) (code := body Try.f62) ⟨Try.func62, rfl, by kernel_rfl, by kernel_rfl, by kernel_rfl, by kernel_rfl⟩ (ev_sLay n x hx)
theorem deeps_mem {k : Tw} : ∀ {ks : List Tw}, k ∈ ks → k.deep ≤ Tw.deeps ks
  | j :: ks, h => by
    simp only [Tw.deeps]
    rcases List.mem_cons.1 h with rfl | h
    · omega
    · have := deeps_mem h; omega
def PrsOk (x : Tw) : Prop := (∃ ps, x = .mk ps [] ∧ ps.length ≤ 4) ∨ ∃ ks, x = .mk [] ks ∧ ks.length ≤ 4 ∧ ∀ k ∈ ks, ∃ b d, Shp b d k
theorem Shp.prs {b : Bool} {d : Nat} {x : Tw} (h : Shp b d x) : PrsOk x := by
  cases h with
  | leaf h1 h2 => exact .inl ⟨_, rfl, h2⟩
  | node h1 h2 h3 => exact .inr ⟨_, rfl, h2, fun k hk => ⟨_, _, h3 k hk⟩⟩
theorem prs_of {x : Tw} (h : x = .mk [] [] ∨ ∃ b d, Shp b d x) : PrsOk x := by
  rcases h with rfl | ⟨b, d, h⟩
  · exact .inl ⟨[], rfl, by simp⟩
  · exact h.prs
structure PrsS where
  n : Nat
  x : Tw
  h : PrsOk x
  hn : x.deep ≤ n
  hl : x.all.length ≤ 4294967296
theorem ev_sPairs : ∀ n x, (fun a => a.x.deep) x = n → evFnX tab [(30, (pureC PrsS [(.rd, true)] [false] (fun p => [subE p.n p.x]) (fun p => [[.row 2 RngX.ds p.x.all]])).below (fun a => a.x.deep) n)] (pureC PrsS [(.rd, true)] [false] (fun p => [subE p.n p.x]) (fun p => [[.row 2 RngX.ds p.x.all]])) Try.f30 (body Try.f30) x := by
  rintro N ⟨n, x, h, hn, hl⟩ rfl
  have hpos := x.deep_pos
  obtain ⟨n, rfl⟩ : ∃ m, n = m + 1 := ⟨n - 1, by omega⟩
  obtain ⟨ps, ks⟩ := x
  replace hl : (Tw.alls ks ++ ps).length ≤ 4294967296 := hl
  rw [List.length_append] at hl
  replace hn : 1 + Tw.deeps ks ≤ n + 1 := hn
  have hk4 : ks.length ≤ 4 := by
    rcases h with ⟨_, h, _⟩ | ⟨_, h, h4, _⟩
    · cases h; simp
    · cases h; exact h4
  have hps : ps.length ≤ 4 := by
    rcases h with ⟨_, h, h4⟩ | ⟨_, h, _⟩
    · cases h; exact h4
    · cases h; simp
  have hkid : ∀ k ∈ ks, ∃ b d', Shp b d' k := by
    intro k hk
    rcases h with ⟨_, h, _⟩ | ⟨_, h, _, h3⟩
    · cases h; simp at hk
    · cases h; exact h3 k hk
  have hord : Tw.alls ks ++ ps = ps ++ Tw.alls ks := by
    rcases h with ⟨_, h, _⟩ | ⟨_, h, _⟩
    · cases h; simp [Tw.alls]
    · cases h; simp
  conv => whnf
  refine ⟨true, ?_⟩
  conv => whnf
  refine ⟨RngX, RngX.ds, [], fun _ => rfl, rfl, ?_⟩
  conv => whnf
  refine ⟨fun _ => rfl, ps, rfl, ?_, ?_⟩
  · show 0 + ps.length ≤ 4294967296; omega
  conv => whnf
  intro _
  conv => whnf
  let S0 : Nat → Sl := fun i => [(12, .lf (.int .i64 i)), (11, .lf (.int .i64 ks.length)), (1, .pt 16 0 0), (3, .sl 128 none)]
  let H0 : Nat → Hp := fun i => [(128, some (.row .own 2 RngX.ds (ps ++ Tw.alls (ks.take i)))), (16, some (.arr true 3 [[.lf (.bool ks.isEmpty), .sl 0 none, .sl 1 none]])), (0, some (.row .lent 2 RngX.ds ps)), (1, some (.row .lent 3 (subE n) ks))]
  refine ⟨fun m s h => ∃ i : Nat, i ≤ ks.length ∧ m = ks.length - i ∧ s = S0 i ∧ h = H0 i, ks.length, [(128, 128), (16, 16), (0, 0), (1, 1)], S0 0, H0 0,
    ⟨rfl, ⟨rfl, rfl, rfl, rfl, trivial⟩, ?_, rfl, rfl, rfl, trivial⟩, ⟨0, by omega, rfl, rfl, rfl⟩, ?_⟩
  · show _ = some (Ob.row Kind.own 2 RngX.ds (ps ++ Tw.alls (ks.take 0)))
    simp [Tw.alls]; rfl
  rintro m _ _ ⟨i, g1, rfl, rfl, rfl⟩
  conv => whnf
  refine br2 (fun h5 => ?_) (fun h5 => ?_)
  · have hi : i < ks.length := by have := of_decide_eq_true h5; omega
    obtain ⟨k, hk⟩ := getL hi
    obtain ⟨b', d', hks⟩ := hkid k (List.mem_of_getElem? hk)
    have hkd := deeps_mem (List.mem_of_getElem? hk)
    obtain ⟨us, is⟩ := k
    have hp := (Tw.mk us is).deep_pos
    obtain ⟨n', rfl⟩ : ∃ q, n = q + 1 := ⟨n - 1, by omega⟩
    have hal := Tw.alls_le hk
    conv => whnf
    refine ⟨Int.natCast_nonneg _, ltI hk, ?_⟩
    conv => whnf
    refine ex2 _ (nthI hk) ?_
    conv => whnf
    refine ⟨⟨⟨n' + 1, .mk us is, hks.prs, by omega, by show (Tw.mk us is).all.length ≤ 4294967296; omega⟩, (show (Tw.mk us is).deep < 1 + Tw.deeps ks by omega)⟩, rfl, ?_⟩
    rintro _ _ ⟨rfl, rfl⟩
    conv => whnf
    refine ⟨fun _ => rfl, (Tw.mk us is).all, rfl, ?_, ?_⟩
    · show (ps ++ Tw.alls (ks.take i)).length + (Tw.mk us is).all.length ≤ 4294967296
      rw [List.length_append]; omega
    conv => whnf
    refine ⟨ks.length - (i + 1), [(352, 128), (16, 16), (0, 0), (1, 1)], S0 (i + 1), H0 (i + 1), by omega, ⟨rfl, ⟨incI hi (by omega), rfl, rfl, rfl, trivial⟩, ?_, rfl, rfl, rfl, trivial⟩, i + 1, by omega, rfl, rfl, rfl⟩
    show _ = some (Ob.row Kind.own 2 RngX.ds (ps ++ Tw.alls (ks.take (i + 1))))
    rw [Tw.alls_take hk, ← List.append_assoc]; rfl
  · have hi : i = ks.length := by have := of_decide_eq_false h5; omega
    subst hi
    conv => whnf
    refine ⟨⟨rfl, ?_⟩⟩
    show [[D.row 2 RngX.ds (ps ++ Tw.alls (ks.take ks.length))]] = [[D.row 2 RngX.ds (Tw.alls ks ++ ps)]]
    rw [List.take_length, hord]
theorem sPairs_ok : FnOk Try.prog 30 (pureC PrsS [(.rd, true)] [false] (fun p => [subE p.n p.x]) (fun p => [[.row 2 RngX.ds p.x.all]])) := fn_rec (fun a => a.x.deep) fun n hs x hx => fnX_at tab_ok (SOk.cons hs (SOk.nil)) mixed (fn := Try.f30) (code := body Try.f30) ⟨Try.func30, rfl, by kernel_rfl, by kernel_rfl, by kernel_rfl, by kernel_rfl⟩ (ev_sPairs n x hx)
end Go.Vm
namespace Go.Vm
open Go.Proofs
set_option maxRecDepth 100000
set_option linter.unusedVariables false
set_option linter.unusedSimpArgs false

theorem Lev.deep : ∀ {d : Nat} {x : Tw}, Lev d x → x.deep = d := by
  intro d x h
  induction h with
  | leaf => simp [Tw.deep, Tw.deeps]
  | node h1 h3 ih =>
    rename_i d ps ks
    have key : ∀ l : List Tw, l ≠ [] → (∀ k ∈ l, k.deep = d) → Tw.deeps l = d := by
      intro l
      induction l with
      | nil => intro h; exact absurd rfl h
      | cons k l ihl =>
        intro _ hk
        have h4 := hk k (by simp)
        simp only [Tw.deeps]
        cases l with
        | nil => simp [Tw.deeps, h4]
        | cons q r =>
          have := ihl (by simp) (fun z hz => hk z (by simp [hz]))
          rw [this, h4]; simp
    simp only [Tw.deep]
    rw [key ks h1 ih]; omega
structure SubX where
  n : Nat
  x : Tw
  hd : x.deep ≤ n
  hn : n ≤ 1000
def cSDeep : Con := relC SubX [(.rd, true)] [false] (fun t => [subE t.n t.x]) (fun t r => ∃ v : Int, r = [[.lf (.int .i64 v)]] ∧ v ≤ t.x.deep ∧ (0 ≤ v → Lev t.x.deep t.x ∧ v = t.x.deep) ∧ (v < 0 → ∀ d, ¬ Lev d t.x))
theorem mk_deep {ps : List RngX} {ks : List Tw} : (Tw.mk ps ks).deep = 1 + Tw.deeps ks := rfl
theorem ev_sDeep : ∀ n x, (fun t => t.x.deep) x = n → evFnX tab [(60, cSDeep.below (fun t => t.x.deep) n)] cSDeep Try.f60 (body Try.f60) x := by
  rintro M ⟨n, ⟨ps, ks⟩, hd, hn⟩ rfl
  replace hd : 1 + Tw.deeps ks ≤ n := hd
  obtain ⟨n, rfl⟩ : ∃ m, n = m + 1 := ⟨n - 1, by omega⟩
  conv => whnf
  refine br2 (fun h1 => ?_) (fun h1 => ?_)
  · obtain rfl : ks = [] := by cases ks with | nil => rfl | cons k r => cases h1
    conv => whnf
    exact ⟨⟨rfl, 1, rfl, by show (1 : Int) ≤ ((1 + 0 : Nat) : Int); omega, fun _ => ⟨.leaf, rfl⟩, fun h => by omega⟩⟩
  have hne : ks ≠ [] := by rintro rfl; cases h1
  have hlen : 0 < ks.length := List.length_pos_iff.2 hne
  conv => whnf
  intro hkl
  replace hkl : ks.length ≤ 9223372036854775807 := hkl
  conv => whnf
  let S0 : Nat → Nat → Sl := fun i dd => [(11, .lf (.int .i64 i)), (10, .lf (.int .i64 ks.length)), (1, .pt 16 0 0), (3, .lf (.int .i64 dd))]
  let H0 : Hp := [(16, some (.arr true 3 [[.lf (.bool ks.isEmpty), .sl 0 none, .sl 1 none]])), (0, some (.row .lent 2 RngX.ds ps)), (1, some (.row .lent 3 (subE n) ks))]
  refine ⟨fun m s h => ∃ i dd : Nat, i ≤ ks.length ∧ dd ≤ 1000 ∧ (i = 0 → dd = 0) ∧ (0 < i → ∃ e, dd = e + 1 ∧ ∀ k ∈ ks.take i, Lev e k) ∧ m = ks.length - i ∧ s = S0 i dd ∧ h = H0, ks.length, [(16, 16), (0, 0), (1, 1)], S0 0 0, H0,
    ⟨rfl, ⟨rfl, rfl, rfl, rfl, trivial⟩, rfl, rfl, rfl, trivial⟩, ⟨0, 0, by omega, by omega, fun _ => rfl, fun h => absurd h (by omega), rfl, rfl, rfl⟩, ?_⟩
  rintro m _ _ ⟨i, dd, g1, g2, g3, g4, rfl, rfl, rfl⟩
  conv => whnf
  refine br2 (fun h5 => ?_) (fun h5 => ?_)
  · have hi : i < ks.length := by have := of_decide_eq_true h5; omega
    obtain ⟨k, hk⟩ := getL hi
    have hkm := List.mem_of_getElem? hk
    have hkd := deeps_mem hkm
    have hkp := k.deep_pos
    have no : (∀ e, Lev e k → 0 < i → ∀ q ∈ ks.take i, Lev e q → False) → (0 < i ∨ ∀ e, ¬ Lev e k) → ∀ d, ¬ Lev d (.mk ps ks) := by
      intro a b d hl
      cases hl with
      | leaf => exact hne rfl
      | node q1 q3 =>
        rcases b with b | b
        · obtain ⟨q, hq⟩ := getL (l := ks) (j := 0) hlen
          have : q ∈ ks.take i := by
            have : (ks.take i)[0]? = some q := by rw [List.getElem?_take, if_pos b]; exact hq
            exact List.mem_of_getElem? this
          exact a _ (q3 k hkm) b q this (q3 q (List.mem_of_getElem? hq))
        · exact b _ (q3 k hkm)
    obtain ⟨us, is⟩ := k
    replace hkd : (Tw.mk us is).deep ≤ n := by omega
    obtain ⟨n', rfl⟩ : ∃ q, n = q + 1 := ⟨n - 1, by omega⟩
    conv => whnf
    refine ⟨Int.natCast_nonneg _, ltI hk, ?_⟩
    conv => whnf
    refine ex2 _ (nthI hk) ?_
    conv => whnf
    refine ⟨⟨⟨n' + 1, .mk us is, hkd, by omega⟩, by show (Tw.mk us is).deep < 1 + Tw.deeps ks; have := deeps_mem hkm; omega⟩, rfl, ?_⟩
    rintro _ _ ⟨rfl, v, rfl, v1, v2, v3⟩
    replace v1 : v ≤ ((Tw.mk us is).deep : Int) := v1
    replace v2 : 0 ≤ v → Lev (Tw.mk us is).deep (Tw.mk us is) ∧ v = (Tw.mk us is).deep := v2
    replace v3 : v < 0 → ∀ d, ¬ Lev d (Tw.mk us is) := v3
    have bad : ∀ {d : Nat}, (∀ e, ¬ Lev e (Tw.mk ps ks)) → ∃ w : Int, [[D.lf (.int .i64 (-1))]] = [[D.lf (.int .i64 w)]] ∧ w ≤ ((Tw.mk ps ks).deep : Int) ∧ (0 ≤ w → Lev (Tw.mk ps ks).deep (Tw.mk ps ks) ∧ w = ((Tw.mk ps ks).deep : Int)) ∧ (w < 0 → ∀ d, ¬ Lev d (Tw.mk ps ks)) := fun h =>
      ⟨-1, rfl, by omega, fun h => by omega, fun _ => h⟩
    conv => whnf
    refine br2 (fun h6 => ?_) (fun h6 => ?_)
    · have h6' : v < 0 := of_decide_eq_true h6
      conv => whnf
      exact ⟨⟨rfl, bad (d := 0) (no (fun e h => absurd h (v3 h6' e)) (.inr (v3 h6')))⟩⟩
    have h6' : 0 ≤ v := by have h7 : ¬ v < 0 := of_decide_eq_false h6; omega
    obtain ⟨hlv, rfl⟩ := v2 h6'
    have hwd : IntKind.i64.wrap (((Tw.mk us is).deep : Int) + 1) = (((Tw.mk us is).deep + 1 : Nat) : Int) := by rw [w64 (by omega) (by omega)]; omega
    have step : ∀ {s' : Sl} {h' : Hp}, (∀ q ∈ ks.take i, Lev (Tw.mk us is).deep q) → Le [(16, 16), (0, 0), (1, 1)] (S0 (i + 1) ((Tw.mk us is).deep + 1)) H0 s' h' →
        ∃ m' ρ s'' h'', m' < ks.length - i ∧ Le ρ s'' h'' s' h' ∧ ∃ i dd : Nat, i ≤ ks.length ∧ dd ≤ 1000 ∧ (i = 0 → dd = 0) ∧ (0 < i → ∃ e, dd = e + 1 ∧ ∀ k ∈ ks.take i, Lev e k) ∧ m' = ks.length - i ∧ s'' = S0 i dd ∧ h'' = H0 := fun h hle =>
      ⟨ks.length - (i + 1), _, _, _, by omega, hle, i + 1, (Tw.mk us is).deep + 1, by omega, by omega, fun h => by omega, fun _ => ⟨_, rfl, fun q hq => by
        rw [List.take_add_one, hk] at hq
        rcases List.mem_append.1 hq with hq | hq
        · exact h q hq
        · simp at hq; subst hq; exact hlv⟩, rfl, rfl, rfl⟩
    have hw := incI hi hkl
    have hl1 : Le [(16, 16), (0, 0), (1, 1)] (S0 (i + 1) ((Tw.mk us is).deep + 1)) H0 (S0 (i + 1) ((Tw.mk us is).deep + 1)) H0 := ⟨rfl, ⟨rfl, rfl, rfl, rfl, trivial⟩, rfl, rfl, rfl, trivial⟩
    conv => whnf
    refine br2 (fun h7 => ?_) (fun h7 => ?_)
    · have h7' : 0 < i := by have := of_decide_eq_true h7; omega
      obtain ⟨e, rfl, g4'⟩ := g4 h7'
      conv => whnf
      refine br2 (fun h8 => ?_) (fun h8 => ?_)
      · have h8' : (Tw.mk us is).deep ≠ e := by
          replace h8 : (IntKind.i64.wrap (((Tw.mk us is).deep : Int) + 1) != ((e + 1 : Nat) : Int)) = true := h8
          rw [hwd] at h8
          simp at h8; omega
        conv => whnf
        refine ⟨⟨rfl, bad (d := 0) (no (fun e' h1 _ q hq h2 => ?_) (.inl h7'))⟩⟩
        have a1 := h1.deep
        have a2 := (g4' q hq).deep
        have a3 := h2.deep
        omega
      · have h8' : (Tw.mk us is).deep = e := by
          replace h8 : (IntKind.i64.wrap (((Tw.mk us is).deep : Int) + 1) != ((e + 1 : Nat) : Int)) = false := h8
          rw [hwd] at h8
          simp at h8; omega
        conv => whnf
        refine step (by rw [h8']; exact g4') ⟨rfl, ⟨hw, rfl, rfl, ?_, trivial⟩, rfl, rfl, rfl, trivial⟩
        show V.lf (.int .i64 (IntKind.i64.wrap (((Tw.mk us is).deep : Int) + 1))) = _
        rw [hwd]
    · have h7' : i = 0 := by have := of_decide_eq_false h7; omega
      subst h7'
      conv => whnf
      refine step (fun q hq => by simp at hq) ⟨rfl, ⟨hw, rfl, rfl, ?_, trivial⟩, rfl, rfl, rfl, trivial⟩
      show V.lf (.int .i64 (IntKind.i64.wrap (((Tw.mk us is).deep : Int) + 1))) = _
      rw [hwd]
  · have hi : i = ks.length := by have := of_decide_eq_false h5; omega
    subst hi
    obtain ⟨e, rfl, g5⟩ := g4 hlen
    rw [List.take_length] at g5
    have hL : Lev (e + 1) (.mk ps ks) := .node hne g5
    have hdp := hL.deep
    conv => whnf
    refine ⟨⟨rfl, _, rfl, ?_, fun _ => ⟨?_, ?_⟩, fun h => ?_⟩⟩
    · show ((e + 1 : Nat) : Int) ≤ ((Tw.mk ps ks).deep : Int); rw [hdp]; omega
    · show Lev (Tw.mk ps ks).deep (Tw.mk ps ks); rw [hdp]; exact hL
    · show ((e + 1 : Nat) : Int) = ((Tw.mk ps ks).deep : Int); rw [hdp]
    · omega
theorem sDeep_ok : FnOk Try.prog 60 cSDeep := fn_rec (fun t => t.x.deep) fun n hs x hx => fnX_at tab_ok (SOk.cons hs (SOk.nil)) mixed (fn := Try.f60) (code := body Try.f60) ⟨Try.func60, rfl, by kernel_rfl, by kernel_rfl, by kernel_rfl, by kernel_rfl⟩ (ev_sDeep n x hx)
structure FullX where
  t : SubX
  root : Bool
theorem ev_sFull : ∀ n x, (fun f => f.t.x.deep) x = n → evFnX tab [(59, (pureC FullX [(.rd, true), (.rd, false)] [false] (fun f => [subE f.t.n f.t.x, [.lf (.bool f.root)]]) (fun f => [[.lf (.bool (Tw.full f.root f.t.x))]])).below (fun f => f.t.x.deep) n)] (pureC FullX [(.rd, true), (.rd, false)] [false] (fun f => [subE f.t.n f.t.x, [.lf (.bool f.root)]]) (fun f => [[.lf (.bool (Tw.full f.root f.t.x))]])) Try.f59 (body Try.f59) x := by
  rintro M ⟨⟨n, ⟨ps, ks⟩, hd, hn⟩, root⟩ rfl
  replace hd : 1 + Tw.deeps ks ≤ n := hd
  obtain ⟨n, rfl⟩ : ∃ m, n = m + 1 := ⟨n - 1, by omega⟩
  conv => whnf
  refine br2 (fun h1 => ?_) (fun h1 => ?_)
  · obtain rfl : ks = [] := by cases ks with | nil => rfl | cons k r => cases h1
    have fin : ∀ b : Bool, b = (decide (ps.length ≤ 4) && (decide (2 ≤ ps.length) || root && decide (ps.length = 1))) → [[D.lf (.bool b)]] = [[D.lf (.bool (Tw.full root (.mk ps [])))]] := fun b h => by rw [full_leaf, h]
    conv => whnf
    intro _
    conv => whnf
    refine br2 (fun h2 => ?_) (fun h2 => ?_)
    · have h2' : ps.length ≤ 4 := by
        replace h2 : decide ((ps.length : Int) ≤ 4) = true := h2
        have := of_decide_eq_true h2; omega
      conv => whnf
      intro _
      conv => whnf
      refine br2 (fun h3 => ?_) (fun h3 => ?_)
      · have h3' : 2 ≤ ps.length := by
          replace h3 : decide ((ps.length : Int) ≥ 2) = true := h3
          have := of_decide_eq_true h3; omega
        conv => whnf
        refine ⟨⟨rfl, fin _ ?_⟩⟩
        simp [h2', h3']
      · have h3' : ¬ 2 ≤ ps.length := by
          replace h3 : decide ((ps.length : Int) ≥ 2) = false := h3
          have := of_decide_eq_false h3; omega
        cases root with
        | true =>
          conv => whnf
          intro _
          conv => whnf
          refine ⟨⟨rfl, fin _ ?_⟩⟩
          show ((ps.length : Int) == 1) = _
          simp [h2', h3']
          rw [Bool.eq_iff_iff]; simp; omega
        | false =>
          conv => whnf
          refine ⟨⟨rfl, fin _ ?_⟩⟩
          simp [h2', h3']
    · have h2' : ¬ ps.length ≤ 4 := by
        replace h2 : decide ((ps.length : Int) ≤ 4) = false := h2
        have := of_decide_eq_false h2; omega
      conv => whnf
      refine ⟨⟨rfl, fin _ ?_⟩⟩
      simp [h2']
  have hne : ks ≠ [] := by rintro rfl; cases h1
  have hlen : 0 < ks.length := List.length_pos_iff.2 hne
  have fin : ∀ b : Bool, b = (decide (2 ≤ ks.length) && decide (ks.length ≤ 4) && decide (ps.length = 0) && Tw.fulls ks) → [[D.lf (.bool b)]] = [[D.lf (.bool (Tw.full root (.mk ps ks)))]] := fun b h => by rw [full_node hne, h]
  conv => whnf
  intro hkl
  replace hkl : ks.length ≤ 9223372036854775807 := hkl
  conv => whnf
  refine br2 (fun h2 => ?_) (fun h2 => ?_)
  · have h2' : ¬ 2 ≤ ks.length := by
      replace h2 : decide ((ks.length : Int) < 2) = true := h2
      have := of_decide_eq_true h2; omega
    conv => whnf
    refine ⟨⟨rfl, fin _ ?_⟩⟩
    simp [h2']
  have h2' : 2 ≤ ks.length := by
    replace h2 : decide ((ks.length : Int) < 2) = false := h2
    have := of_decide_eq_false h2; omega
  conv => whnf
  intro _
  conv => whnf
  refine br2 (fun h3 => ?_) (fun h3 => ?_)
  · have h3' : ¬ ks.length ≤ 4 := by
      replace h3 : decide ((ks.length : Int) > 4) = true := h3
      have := of_decide_eq_true h3; omega
    conv => whnf
    refine ⟨⟨rfl, fin _ ?_⟩⟩
    simp [h3']
  have h3' : ks.length ≤ 4 := by
    replace h3 : decide ((ks.length : Int) > 4) = false := h3
    have := of_decide_eq_false h3; omega
  conv => whnf
  intro _
  conv => whnf
  refine br2 (fun h4 => ?_) (fun h4 => ?_)
  · have h4' : ¬ ps.length = 0 := by
      replace h4 : decide ((ps.length : Int) > 0) = true := h4
      have := of_decide_eq_true h4; omega
    conv => whnf
    refine ⟨⟨rfl, fin _ ?_⟩⟩
    simp only [h4', decide_false, Bool.and_false, Bool.false_and]
  have h4' : ps.length = 0 := by
    replace h4 : decide ((ps.length : Int) > 0) = false := h4
    have := of_decide_eq_false h4; omega
  have fin2 : ∀ b : Bool, b = Tw.fulls ks → [[D.lf (.bool b)]] = [[D.lf (.bool (Tw.full root (.mk ps ks)))]] := fun b h => fin b (by simp [h2', h3', h4', h])
  conv => whnf
  intro _
  conv => whnf
  let S0 : Nat → Sl := fun i => [(46, .lf (.int .i64 i)), (45, .lf (.int .i64 ks.length)), (2, .pt 32 0 0)]
  let H0 : Hp := [(32, some (.arr true 3 [[.lf (.bool ks.isEmpty), .sl 0 none, .sl 1 none]])), (0, some (.row .lent 2 RngX.ds ps)), (1, some (.row .lent 3 (subE n) ks))]
  refine ⟨fun m s h => ∃ i : Nat, i ≤ ks.length ∧ (∀ k ∈ ks.take i, Tw.full false k = true) ∧ m = ks.length - i ∧ s = S0 i ∧ h = H0, ks.length, [(32, 32), (0, 0), (1, 1)], S0 0, H0,
    ⟨rfl, ⟨rfl, rfl, rfl, trivial⟩, rfl, rfl, rfl, trivial⟩, ⟨0, by omega, fun k h => by simp at h, rfl, rfl, rfl⟩, ?_⟩
  rintro m _ _ ⟨i, g1, g2, rfl, rfl, rfl⟩
  conv => whnf
  refine br2 (fun h5 => ?_) (fun h5 => ?_)
  · have hi : i < ks.length := by have := of_decide_eq_true h5; omega
    obtain ⟨k, hk⟩ := getL hi
    have hkm := List.mem_of_getElem? hk
    have hkd := deeps_mem hkm
    have hkp := k.deep_pos
    obtain ⟨us, is⟩ := k
    replace hkd : (Tw.mk us is).deep ≤ n := by omega
    obtain ⟨n', rfl⟩ : ∃ q, n = q + 1 := ⟨n - 1, by omega⟩
    conv => whnf
    refine ⟨Int.natCast_nonneg _, ltI hk, ?_⟩
    conv => whnf
    refine ex2 _ (nthI hk) ?_
    conv => whnf
    refine ⟨⟨⟨⟨n' + 1, .mk us is, hkd, by omega⟩, false⟩, by show (Tw.mk us is).deep < 1 + Tw.deeps ks; have := deeps_mem hkm; omega⟩, rfl, ?_⟩
    rintro _ _ ⟨rfl, rfl⟩
    conv => whnf
    refine br2 (fun h6 => ?_) (fun h6 => ?_)
    · have h6' : Tw.full false (.mk us is) = false := by
        replace h6 : (!Tw.full false (.mk us is)) = true := h6
        simpa using h6
      conv => whnf
      refine ⟨⟨rfl, fin2 _ ?_⟩⟩
      cases e : Tw.fulls ks with
      | false => rfl
      | true => rw [fulls_iff.1 e _ hkm] at h6'; cases h6'
    · have h6' : Tw.full false (.mk us is) = true := by
        replace h6 : (!Tw.full false (.mk us is)) = false := h6
        simpa using h6
      conv => whnf
      refine ⟨ks.length - (i + 1), [(32, 32), (0, 0), (1, 1)], S0 (i + 1), H0, by omega, ⟨rfl, ⟨incI hi hkl, rfl, rfl, trivial⟩, rfl, rfl, rfl, trivial⟩, i + 1, by omega, fun q hq => ?_, rfl, rfl, rfl⟩
      rw [List.take_add_one, hk] at hq
      rcases List.mem_append.1 hq with hq | hq
      · exact g2 q hq
      · simp at hq; subst hq; exact h6'
  · have hi : i = ks.length := by have := of_decide_eq_false h5; omega
    subst hi
    rw [List.take_length] at g2
    conv => whnf
    exact ⟨⟨rfl, fin2 _ (fulls_iff.2 g2).symm⟩⟩
theorem sFull_ok : FnOk Try.prog 59 (pureC FullX [(.rd, true), (.rd, false)] [false] (fun f => [subE f.t.n f.t.x, [.lf (.bool f.root)]]) (fun f => [[.lf (.bool (Tw.full f.root f.t.x))]])) := fn_rec (fun f => f.t.x.deep) fun n hs x hx => fnX_at tab_ok (SOk.cons hs (SOk.nil)) mixed (fn := Try.f59) (code := body Try.f59) ⟨Try.func59, rfl, by kernel_rfl, by kernel_rfl, by kernel_rfl, by kernel_rfl⟩ (ev_sFull n x hx)
theorem Tw.len_sizes : ∀ l : List Tw, l.length ≤ Tw.sizes l
  | [] => Nat.le_refl _
  | k :: l => by simp only [Tw.sizes, List.length_cons]; have := Tw.len_sizes l; have := k.size_pos; omega
/-! Reading -/
structure ReadX where
  N : List NodeX
  at_ : Nat
  b : Nat
  deep : Int
  hN : N.length ≤ 1048576
  hp : ∀ n ∈ N, n.ps.length ≤ 1048576
  hb : deep + b = 13
  h0 : 0 ≤ deep
def optS (b : Nat) : Option Tw → List D
  | none => [.lf (.bool false), .row 2 RngX.ds [], .row 3 (subE 0) []]
  | some x => subE b x
structure ReadR (N : List NodeX) (a b : Nat) (o : Option Tw) (next : Int) (ok : Bool) : Prop where
  yes : ok = true → ∃ x, o = some x ∧ Fit false N a x ∧ x.deep ≤ b ∧ next = ((a + x.size : Nat) : Int)
  no : ok = false → o = none ∧ ∀ x, Fit false N a x → ¬ x.deep ≤ b
def cSRead : Con := relC ReadX [(.rd, true), (.rd, false), (.rd, false)] [true, false, false] (fun g => [[.row 3 NodeX.ds g.N], [.lf (.int .i64 g.at_)], [.lf (.int .i64 g.deep)]])
  (fun g r => ∃ o next ok, r = [optS g.b o, [.lf (.int .i64 next)], [.lf (.bool ok)]] ∧ ReadR g.N g.at_ g.b o next ok)
structure SubsTo (N : List NodeX) (a b : Nat) (n : NodeX) (l : List Tw) : Prop where
  fit : FitK false N (a + 1) l
  kids : n.kids.take l.length = kidsAt l (a + 1)
  deep : ∀ k ∈ l, k.deep ≤ b
theorem SubsTo.snoc {N : List NodeX} {a b : Nat} {n : NodeX} {l : List Tw} {k : Tw} (h : SubsTo N a b n l) (hk : n.kids[l.length]? = some (((a + 1 + Tw.sizes l : Nat)) : Int)) (hf : Fit false N (a + 1 + Tw.sizes l) k) (hd : k.deep ≤ b) : SubsTo N a b n (l ++ [k]) := by
  refine ⟨fitK_app.2 ⟨h.fit, fitK_one.2 hf⟩, ?_, fun q hq => ?_⟩
  · rw [List.length_append, List.length_singleton, List.take_add_one, h.kids, hk, kidsAt_app]; rfl
  · rcases List.mem_append.1 hq with hq | hq
    · exact h.deep q hq
    · simp at hq; subst hq; exact hd
theorem SubsTo.next {N : List NodeX} {a b : Nat} {n : NodeX} {l : List Tw} (h : SubsTo N a b n l) (hn : N[a]? = some n) (hl : l.length < n.kids.length) {x : Tw} (hf : Fit false N a x) (hd : x.deep ≤ b + 1) :
    ∃ k, n.kids[l.length]? = some ((a + 1 + Tw.sizes l : Nat) : Int) ∧ Fit false N (a + 1 + Tw.sizes l) k ∧ k.deep ≤ b := by
  obtain ⟨ps, ks⟩ := x
  simp only [Fit] at hf
  obtain ⟨⟨n', e1, e2, e3, e4⟩, h2⟩ := hf
  rw [hn] at e1; cases e1
  have hlen : n.kids.length = ks.length := by rw [e3, kidsAt_len]
  have hfr := h.fit.front h2 (by omega)
  obtain ⟨k, hk⟩ := getL (l := ks) (j := l.length) (by omega)
  have hkf := h2.get hk
  rw [← hfr] at hkf
  have := deeps_mem (List.mem_of_getElem? hk)
  rw [mk_deep] at hd
  exact ⟨k, by rw [e3, kidsAt_get _ _ _ (by omega), ← hfr], hkf, by omega⟩
theorem ev_sRead : ∀ n x, (fun g => g.b) x = n → evFnX tab [(64, cSRead.below (fun g => g.b) n), (1000006, cGh)] cSRead Try.f64 (body Try.f64) x := by
  rintro M ⟨N, a, b, deep, hN, hp, hb, h00⟩ rfl
  replace hN : N.length ≤ 1048576 := hN
  replace hp : ∀ n ∈ N, n.ps.length ≤ 1048576 := hp
  replace hb : deep + b = 13 := hb
  replace h00 : 0 ≤ deep := h00
  have zero : ∀ {P : Prop}, ReadR N a b none 0 false → P → P := fun _ h => h
  conv => whnf
  intro _
  conv => whnf
  have none0 : ∀ {P : Prop}, P → P := fun h => h
  refine br2 (fun h1 => ?_) (fun h1 => ?_)
  · have h1' : N.length ≤ a := by
      replace h1 : decide ((a : Int) ≥ (N.length : Int)) = true := h1
      have := of_decide_eq_true h1; omega
    conv => whnf
    refine ⟨2, RngX, RngX.ds, fun _ => rfl, ?_⟩
    conv => whnf
    refine ⟨3, Tw, subE 0, subE_len 0, ?_⟩
    conv => whnf
    refine ⟨⟨rfl, none, _, _, rfl, fun h => (by cases h), fun _ => ⟨rfl, fun x hf _ => ?_⟩⟩⟩
    have h3 : a + x.size ≤ N.length := hf.le
    have := x.size_pos
    omega
  have h1' : a < N.length := by
    replace h1 : decide ((a : Int) ≥ (N.length : Int)) = false := h1
    have := of_decide_eq_false h1; omega
  conv => whnf
  refine br2 (fun h2 => ?_) (fun h2 => ?_)
  · have h2' : 12 < deep := of_decide_eq_true h2
    conv => whnf
    refine ⟨2, RngX, RngX.ds, fun _ => rfl, ?_⟩
    conv => whnf
    refine ⟨3, Tw, subE 0, subE_len 0, ?_⟩
    conv => whnf
    refine ⟨⟨rfl, none, _, _, rfl, fun h => (by cases h), fun _ => ⟨rfl, fun x _ hd => ?_⟩⟩⟩
    have := x.deep_pos
    replace hd : x.deep ≤ b := hd
    omega
  have h2' : deep ≤ 12 := by
    have h3 : ¬ deep > 12 := of_decide_eq_false h2
    omega
  obtain ⟨b, rfl⟩ : ∃ q, b = q + 1 := ⟨b - 1, by omega⟩
  obtain ⟨⟨ps, keys, kids⟩, hn⟩ := getL h1'
  have hps : ps.length ≤ 1048576 := hp _ (List.mem_of_getElem? hn)
  conv => whnf
  refine ⟨Int.natCast_nonneg _, ltI hn, ?_⟩
  conv => whnf
  refine ex2 _ (nthI hn) ?_
  conv => whnf
  intro hkl
  replace hkl : kids.length ≤ 9223372036854775807 := hkl
  conv => whnf
  repeat ((first | refine rc_i rfl ?_ | refine rc_i (fun _ => rfl) ?_); conv => whnf)
  refine ⟨true, ?_⟩
  conv => whnf
  refine ⟨RngX, RngX.ds, [], fun _ => rfl, rfl, ?_⟩
  conv => whnf
  refine ⟨fun _ => rfl, ps, rfl, ?_, ?_⟩
  · show 0 + ps.length ≤ 4294967296; omega
  conv => whnf
  repeat ((first | refine rc_i rfl ?_ | refine rc_i (fun _ => rfl) ?_); conv => whnf)
  refine ⟨[.nlc 160 0 2 1000], ?_⟩
  conv => whnf
  refine ⟨3, Tw, subE b, subE_len b, ?_⟩
  conv => whnf
  intro _
  conv => whnf
  have hw : IntKind.i64.wrap ((a : Int) + 1) = ((a + 1 : Nat) : Int) := by rw [w64 (by omega) (by omega)]; omega
  have hwd : IntKind.i64.wrap (deep + 1) = deep + 1 := w64 (by omega) (by omega)
  let S0 : Nat → Nat → Sl := fun i nx => [(50, .lf (.int .i64 i)), (49, .lf (.int .i64 kids.length)), (48, .sl 562 none), (11, .lf (.int .i64 nx)), (10, .pt 160 0 0), (3, .pt 48 0 0), (6, .pt 96 0 0), (2, .lf (.int .i64 deep))]
  let H0 : List Tw → Hp := fun l => [(562, some (.row .lent 1 intE1 kids)), (160, some (.arr true 3 [[.lf (.bool ((kids.length : Int) == 0)), .sl 688 none, .sl 16000 none]])), (688, some (.row .own 2 RngX.ds ps)), (16000, some (.row .own 3 (subE b) l)),
    (48, some (.arr true 1 [[.sl 0 none]])), (0, some (.row .lent 3 NodeX.ds N)), (96, some (.arr true 3 [[.lf (.bool false), .lf (.slice none 0 0), .lf (.slice none 0 0)]]))]
  refine ⟨fun m s h => ∃ l : List Tw, l.length ≤ kids.length ∧ SubsTo N a b ⟨ps, keys, kids⟩ l ∧ m = kids.length - l.length ∧ s = S0 l.length (a + 1 + Tw.sizes l) ∧ h = H0 l, kids.length, [(562, 562), (160, 160), (688, 688), (16000, 16000), (48, 48), (0, 0), (96, 96)], S0 0 (a + 1), H0 [],
    ⟨rfl, ⟨rfl, rfl, rfl, ?_, rfl, rfl, rfl, rfl, trivial⟩, rfl, rfl, rfl, rfl, rfl, rfl, rfl, trivial⟩, ⟨[], Nat.zero_le _, ⟨trivial, rfl, fun k h => by simp at h⟩, rfl, rfl, rfl⟩, ?_⟩
  · show V.lf (.int .i64 (IntKind.i64.wrap ((a : Int) + 1))) = _
    rw [hw]
  rintro m _ _ ⟨l, g1, hK, rfl, rfl, rfl⟩
  conv => whnf
  refine br2 (fun h6 => ?_) (fun h6 => ?_)
  · have hi : l.length < kids.length := by have := of_decide_eq_true h6; omega
    obtain ⟨c, hc⟩ := getL hi
    have hfit : a + 1 + Tw.sizes l ≤ N.length := FitK.le l (a + 1) hK.fit (by omega)
    have fail : (∀ k, c = ((a + 1 + Tw.sizes l : Nat) : Int) → Fit false N (a + 1 + Tw.sizes l) k → k.deep ≤ b → False) → ReadR N a (b + 1) none 0 false := by
      intro hb
      refine ⟨fun h => (by cases h), fun _ => ⟨rfl, fun x hf hd => ?_⟩⟩
      obtain ⟨k, k1, k2, k3⟩ := hK.next hn hi hf hd
      replace k1 : kids[l.length]? = some ((a + 1 + Tw.sizes l : Nat) : Int) := k1
      rw [hc] at k1
      exact hb k (Option.some.inj k1) k2 k3
    conv => whnf
    refine ⟨Int.natCast_nonneg _, ltI hc, ?_⟩
    conv => whnf
    refine ex2 _ (nthI hc) ?_
    conv => whnf
    refine br2 (fun h7 => ?_) (fun h7 => ?_)
    · have h7' : c ≠ ((a + 1 + Tw.sizes l : Nat) : Int) := by
        replace h7 : (c != ((a + 1 + Tw.sizes l : Nat) : Int)) = true := h7
        simpa using h7
      conv => whnf
      refine ⟨2, RngX, RngX.ds, fun _ => rfl, ?_⟩
      conv => whnf
      refine ⟨3, Tw, subE 0, subE_len 0, ?_⟩
      conv => whnf
      exact ⟨⟨rfl, none, _, _, rfl, fail fun k h _ _ => h7' h⟩⟩
    have h7' : c = ((a + 1 + Tw.sizes l : Nat) : Int) := by
      replace h7 : (c != ((a + 1 + Tw.sizes l : Nat) : Int)) = false := h7
      simpa using h7
    subst h7'
    generalize hnx : a + 1 + Tw.sizes l = nx at *
    conv => whnf
    refine ⟨⟨⟨N, nx, b, IntKind.i64.wrap (deep + 1), hN, hp, by rw [hwd]; omega, by rw [hwd]; omega⟩, Nat.lt_succ_self b⟩, rfl, ?_⟩
    rintro _ _ ⟨rfl, o, next, ok, rfl, rr⟩
    replace rr : ReadR N nx b o next ok := rr
    cases ok with
    | false =>
      obtain ⟨rfl, rno⟩ := rr.no rfl
      conv => whnf
      refine ⟨2, RngX, RngX.ds, fun _ => rfl, ?_⟩
      conv => whnf
      refine ⟨3, Tw, subE 0, subE_len 0, ?_⟩
      conv => whnf
      exact ⟨⟨rfl, none, _, _, rfl, fail fun k _ k2 k3 => rno k k2 k3⟩⟩
    | true =>
    obtain ⟨⟨us, is⟩, rfl, hxf, hd, rfl⟩ := rr.yes rfl
    have hdp := (Tw.mk us is).deep_pos
    obtain ⟨b, rfl⟩ : ∃ q, b = q + 1 := ⟨b - 1, by omega⟩
    have hsz : a + 1 + Tw.sizes (l ++ [.mk us is]) = nx + (Tw.mk us is).size := by rw [Tw.sizes_app, ← hnx]; simp [Tw.sizes]; omega
    conv => whnf
    refine ⟨[.mk us is], rfl, ?_, ?_⟩
    · show l.length + 1 ≤ 4294967296
      have := Tw.len_sizes l
      omega
    conv => whnf
    refine ⟨kids.length - (l.length + 1), [(562, 562), (160, 160), (688, 688), (1184, 16000), (48, 48), (0, 0), (96, 96)], S0 (l.length + 1) (nx + (Tw.mk us is).size), H0 (l ++ [.mk us is]), by omega,
      ⟨rfl, ⟨incI hi hkl, rfl, rfl, rfl, rfl, rfl, rfl, rfl, trivial⟩, by rfl, by rfl, by rfl, by rfl, by rfl, by rfl, by rfl, trivial⟩, l ++ [.mk us is], by simp; omega, hK.snoc (by rw [hnx]; exact hc) (by rw [hnx]; exact hxf) hd, by simp, by rw [hsz]; simp, rfl⟩
  · have hi : l.length = kids.length := by have := of_decide_eq_false h6; omega
    have hfitl : Fit false N a (.mk ps l) := by
      simp only [Fit]
      refine ⟨⟨_, hn, rfl, ?_, fun h => by cases h⟩, hK.fit⟩
      have := hK.kids
      rw [hi, List.take_length] at this
      exact this
    have hdl : (Tw.mk ps l).deep ≤ b + 1 := by
      rw [mk_deep]
      have : ∀ q : List Tw, (∀ k ∈ q, k.deep ≤ b) → Tw.deeps q ≤ b := by
        intro q
        induction q with
        | nil => intro _; exact Nat.zero_le _
        | cons k q ih =>
          intro h
          simp only [Tw.deeps]
          have := h k (by simp)
          have := ih fun z hz => h z (by simp [hz])
          omega
      have := this l hK.deep
      omega
    conv => whnf
    refine ⟨⟨rfl, some (.mk ps l), ((a + 1 + Tw.sizes l : Nat) : Int), true, ?_, ⟨fun _ => ⟨.mk ps l, rfl, hfitl, hdl, ?_⟩, fun h => (by cases h)⟩⟩⟩
    · show [[D.lf (.bool ((kids.length : Int) == 0)), .row 2 RngX.ds ps, .row 3 (subE b) l], _, _] = [[D.lf (.bool l.isEmpty), .row 2 RngX.ds ps, .row 3 (subE b) l], _, _]
      have : ((kids.length : Int) == 0) = l.isEmpty := by rw [Bool.eq_iff_iff, List.isEmpty_iff, beq_iff_eq, ← List.length_eq_zero_iff]; omega
      rw [this]
    · simp only [Tw.size]; rw [Nat.add_assoc]
theorem sRead_ok : FnOk Try.prog 64 cSRead := fn_rec (fun g => g.b) fun n hs x hx => fnX_at tab_ok (SOk.cons hs (SOk.cons gh_ok SOk.nil)) mixed (fn := Try.f64) (code := body Try.f64) ⟨Try.func64, rfl, by kernel_rfl, by kernel_rfl, by kernel_rfl, by kernel_rfl⟩ (ev_sRead n x hx)
structure RootS (N : List NodeX) (o : Option Tw) (ok : Bool) : Prop where
  yes : ok = true → N ≠ [] → ∃ x, o = some x ∧ Fit false N 0 x ∧ x.size = N.length ∧ x.deep ≤ 13
  no : ok = false → ∀ x, Fit false N 0 x → x.size = N.length → ¬ x.deep ≤ 13
  emp : N = [] → o = some (.mk [] []) ∧ ok = true
def cSRoot : Con := relC TreeX [(.rd, true)] [true, false] (fun g => [[.row 3 NodeX.ds g.N]]) (fun g r => ∃ o ok, r = [optS 13 o, [.lf (.bool ok)]] ∧ RootS g.N o ok)
theorem ev_sRoot : ∀ x, evFnX tab [(64, cSRead)] cSRoot Try.f28 (body Try.f28) x := by
  rintro ⟨N, f, hf, hN, hp⟩
  replace hN : N.length ≤ 1048576 := hN
  conv => whnf
  intro _
  conv => whnf
  refine br2 (fun h1 => ?_) (fun h1 => ?_)
  · have h1' : N = [] := by
      replace h1 : ((N.length : Int) == 0) = true := h1
      exact List.eq_nil_of_length_eq_zero (by simpa using h1)
    subst h1'
    conv => whnf
    refine ⟨2, RngX, RngX.ds, fun _ => rfl, ?_⟩
    conv => whnf
    refine ⟨3, Tw, subE 12, subE_len 12, ?_⟩
    conv => whnf
    exact ⟨⟨rfl, some (.mk [] []), true, rfl, fun _ h => absurd rfl h, fun h => (by cases h), fun _ => ⟨rfl, rfl⟩⟩⟩
  have h1' : N ≠ [] := by
    replace h1 : ((N.length : Int) == 0) = false := h1
    rintro rfl; simp at h1
  conv => whnf
  refine ⟨⟨N, 0, 13, 0, hN, hp, rfl, by omega⟩, rfl, ?_⟩
  rintro _ _ ⟨rfl, o, next, ok, rfl, rr⟩
  replace rr : ReadR N 0 13 o next ok := rr
  cases ok with
  | false =>
    obtain ⟨rfl, rno⟩ := rr.no rfl
    conv => whnf
    repeat ((first | refine rc_i rfl ?_ | refine rc_i (fun _ => rfl) ?_); conv => whnf)
    exact ⟨⟨rfl, none, false, rfl, fun h => (by cases h), fun _ x hf _ hd => rno x hf hd, fun h => absurd h h1'⟩⟩
  | true =>
    obtain ⟨⟨us, is⟩, rfl, hxf, hd, rfl⟩ := rr.yes rfl
    conv => whnf
    intro _
    conv => whnf
    repeat ((first | refine rc_i rfl ?_ | refine rc_i (fun _ => rfl) ?_); conv => whnf)
    refine ⟨⟨rfl, some (.mk us is), _, rfl, ⟨fun h _ => ⟨_, rfl, hxf, ?_, hd⟩, fun h x hf hs _ => ?_, fun h => absurd h h1'⟩⟩⟩
    · replace h : (((0 + (Tw.mk us is).size : Nat) : Int) == (N.length : Int)) = true := h
      rw [beq_iff_eq] at h
      show (Tw.mk us is).size = N.length
      omega
    · replace h : (((0 + (Tw.mk us is).size : Nat) : Int) == (N.length : Int)) = false := h
      replace hs : x.size = N.length := hs
      rw [Fit.uniq x _ 0 hf hxf] at hs
      rw [beq_eq_false_iff_ne] at h
      omega
theorem sRoot_ok : FnOk Try.prog 28 cSRoot := fnOk_of fun x => fnX_at tab_ok (SOk.cons sRead_ok SOk.nil) mixed (fn := Try.f28) (code := body Try.f28) ⟨Try.func28, rfl, by kernel_rfl, by kernel_rfl, by kernel_rfl, by kernel_rfl⟩ (ev_sRoot x)
end Go.Vm
