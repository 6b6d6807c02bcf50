/- A verified evaluator for Go code: a type table that is checked by computing. -/
import Derived.Test.YtedffkngbjlgdaaGreatDoorVm6e
import Derived.Laws.StructEq
namespace Go.Vm
open Go.RowKit
set_option linter.unusedVariables false
set_option linter.unusedSimpArgs false

/-- The kinds of the cells that '==' compares. -/
def kindsF (P : Program) (g : TypeId → Option (List SK)) : List Field → Nat → Option (List SK)
  | [], _ => some []
  | f :: fs, o => match f.name == "_" with
    | true => none
    | false => match Nat.beq f.offset o with
      | false => none
      | true => match g f.type with
        | none => none
        | some ks => match P.info? f.type with
          | none => none
          | some i => match Nat.beq i.size ks.length with
            | false => none
            | true => match Nat.ble 1 ks.length with
              | false => none
              | true => match kindsF P g fs (o + ks.length) with
                | none => none
                | some r => some (ks ++ r)
def kindsT (P : Program) : Nat → TypeId → Option (List SK)
  | 0, _ => none
  | d + 1, t => match P.underlying t with
    | some (.int k) => some [.int k]
    | some .bool => some [.bool]
    | some .string => some [.string]
    | some (.struct fs) => match P.stoodInHeld t with
      | true => none
      | false => kindsF P (kindsT P d) fs.toList 0
    | _ => none

def cellsB : List SK → List Value → List Value → Option Bool
  | [], [], [] => some true
  | .int k :: ks, .int k1 x :: l, .int k2 y :: m => if k1 = k ∧ k2 = k then (cellsB ks l m).map (x == y && ·) else none
  | .bool :: ks, .bool x :: l, .bool y :: m => (cellsB ks l m).map (x == y && ·)
  | .string :: ks, .string x :: l, .string y :: m => (cellsB ks l m).map (strEq x y && ·)
  | _, _, _ => none

theorem eqCells_B {w : World} {E : Env} {g : Nat → Option Ob} : ∀ {ks : List SK} {l m : List V} {K : Bool → Prop} {vs us : List Value}, eqCells ks l m K → VRs w E g l vs → VRs w E g m us → ∃ b, K b ∧ cellsB ks vs us = some b
  | [], [], [], K, vs, us, hk, h1, h2 => by
    obtain rfl : vs = [] := h1
    obtain rfl : us = [] := h2
    exact ⟨true, hk, rfl⟩
  | k :: ks, x :: l, y :: m, K, vs, us, hk, h1, h2 => by
    obtain ⟨v, vs, rfl, hv, h1⟩ := h1
    obtain ⟨u, us, rfl, hu, h2⟩ := h2
    unfold eqCells at hk
    split at hk
    · rename_i heq _ _; cases heq
    · rename_i e0 e1 e2
      cases e0; cases e1; cases e2
      obtain ⟨rfl, _⟩ := hv
      obtain ⟨rfl, _⟩ := hu
      split at hk
      · rename_i e3 e4
        obtain ⟨b, hb, h3⟩ := eqCells_B hk h1 h2
        exact ⟨_, hb, by simp only [cellsB]; rw [if_pos ⟨of_decide_eq_true e3, of_decide_eq_true e4⟩, h3]; rfl⟩
      · exact hk.elim
    · rename_i e0 e1 e2
      cases e0; cases e1; cases e2
      obtain ⟨rfl, _⟩ := hv
      obtain ⟨rfl, _⟩ := hu
      obtain ⟨b, hb, h3⟩ := eqCells_B hk h1 h2
      exact ⟨_, hb, by simp only [cellsB, h3]; rfl⟩
    · rename_i e0 e1 e2
      cases e0; cases e1; cases e2
      obtain ⟨rfl, _⟩ := hv
      obtain ⟨rfl, _⟩ := hu
      obtain ⟨b, hb, h3⟩ := eqCells_B hk h1 h2
      exact ⟨_, hb, by simp only [cellsB, h3]; rfl⟩
    · exact hk.elim
  | [], [], _ :: _, K, vs, us, hk, _, _ => by unfold eqCells at hk; exact hk.elim
  | [], _ :: _, _, K, vs, us, hk, _, _ => by unfold eqCells at hk; exact hk.elim
  | k :: _, [], _, K, vs, us, hk, _, _ => by cases k <;> (unfold eqCells at hk; exact hk.elim)
  | k :: _, x :: _, [], K, vs, us, hk, _, _ => by
    unfold eqCells at hk
    split at hk <;> first | exact hk.elim | (rename_i h _; cases h; done) | (rename_i h; cases h; done)

theorem cellsB_len : ∀ {ks : List SK} {l m : List Value} {b : Bool}, cellsB ks l m = some b → l.length = ks.length ∧ m.length = ks.length
  | [], [], [], b, _ => ⟨rfl, rfl⟩
  | k :: ks, x :: l, y :: m, b, h => by
    have : ∃ c, cellsB ks l m = some c := by
      unfold cellsB at h
      split at h
      · rename_i heq _ _; cases heq
      · rename_i e0 e1 e2; cases e0; cases e1; cases e2
        split at h
        · cases e : cellsB ks l m with
          | none => rw [e] at h; cases h
          | some c => exact ⟨c, rfl⟩
        · cases h
      · rename_i e0 e1 e2; cases e0; cases e1; cases e2
        cases e : cellsB ks l m with
        | none => rw [e] at h; cases h
        | some c => exact ⟨c, rfl⟩
      · rename_i e0 e1 e2; cases e0; cases e1; cases e2
        cases e : cellsB ks l m with
        | none => rw [e] at h; cases h
        | some c => exact ⟨c, rfl⟩
      · cases h
    obtain ⟨c, hc⟩ := this
    obtain ⟨h1, h2⟩ := cellsB_len hc
    simp [h1, h2]
  | [], [], _ :: _, b, h => by simp [cellsB] at h
  | [], _ :: _, _, b, h => by simp [cellsB] at h
  | k :: _, [], _, b, h => by cases k <;> simp [cellsB] at h
  | k :: _, x :: _, [], b, h => by cases k <;> cases x <;> simp [cellsB] at h

theorem cellsB_app : ∀ {k1 k2 : List SK} {l m : List Value} {b : Bool}, cellsB (k1 ++ k2) l m = some b →
    ∃ b1 b2, cellsB k1 (l.take k1.length) (m.take k1.length) = some b1 ∧ cellsB k2 (l.drop k1.length) (m.drop k1.length) = some b2 ∧ b = (b1 && b2)
  | [], k2, l, m, b, h => ⟨true, b, by simp [cellsB], by simpa using h, by simp⟩
  | k :: k1, k2, l, m, b, h => by
    rw [List.cons_append] at h
    unfold cellsB at h
    split at h
    · rename_i heq; cases heq
    · rename_i e0; cases e0
      split at h
      · rename_i hkk
        cases e : cellsB (k1 ++ k2) _ _ with
        | none => rw [e] at h; cases h
        | some c =>
          rw [e] at h
          cases h
          obtain ⟨b1, b2, h1, h2, rfl⟩ := cellsB_app e
          exact ⟨_, b2, by simp only [List.length_cons, List.take_succ_cons, cellsB]; rw [if_pos hkk, h1]; rfl, by simpa using h2, by simp [Bool.and_assoc]⟩
      · cases h
    · rename_i e0; cases e0
      cases e : cellsB (k1 ++ k2) _ _ with
      | none => rw [e] at h; cases h
      | some c =>
        rw [e] at h
        cases h
        obtain ⟨b1, b2, h1, h2, rfl⟩ := cellsB_app e
        exact ⟨_, b2, by simp only [List.length_cons, List.take_succ_cons, cellsB]; rw [h1]; rfl, by simpa using h2, by simp [Bool.and_assoc]⟩
    · rename_i e0; cases e0
      cases e : cellsB (k1 ++ k2) _ _ with
      | none => rw [e] at h; cases h
      | some c =>
        rw [e] at h
        cases h
        obtain ⟨b1, b2, h1, h2, rfl⟩ := cellsB_app e
        exact ⟨_, b2, by simp only [List.length_cons, List.take_succ_cons, cellsB]; rw [h1]; rfl, by simpa using h2, by simp [Bool.and_assoc]⟩
    · cases h

def valT (P : Program) (t : TypeId) (vs : List Value) : Value := if aggB (P.underlying t) then .agg vs.toArray else vs.getD 0 undef

theorem eqFields_run {P : Program} {w : World} {D : Nat} {g : TypeId → Option (List SK)} (hg : ∀ t ks, g t = some ks → (∃ d, P.underlying t = some d) ∧ ∀ vs us b, cellsB ks vs us = some b → (Op.equalIn D t (valT P t vs) (valT P t us)).run P w = .ok b w) {vs us : List Value} :
    ∀ {fs : List Field} {o : Nat} {ks : List SK} {b : Bool}, kindsF P g fs o = some ks → cellsB ks (vs.drop o) (us.drop o) = some b → (Op.eqFields D vs.toArray us.toArray fs).run P w = .ok b w
  | [], o, ks, b, h, hc => by
    simp only [kindsF] at h
    cases h
    have := cellsB_len hc
    have h1 : vs.drop o = [] := List.length_eq_zero_iff.1 this.1
    have h2 : us.drop o = [] := List.length_eq_zero_iff.1 this.2
    rw [h1, h2] at hc
    cases hc
    simp [Op.eqFields]
  | f :: fs, o, ks, b, h, hc => by
    simp only [kindsF] at h
    split at h
    · cases h
    · rename_i hn
      split at h
      · cases h
      · rename_i ho
        split at h
        · cases h
        · rename_i k1 hk1
          split at h
          · cases h
          · rename_i inf hinf
            split at h
            · cases h
            · rename_i hsz
              split at h
              · cases h
              · rename_i hpos
                split at h
                · cases h
                · rename_i r hr
                  cases h
                  have ho' := nbeq_eq ho
                  have hsz' := nbeq_eq hsz
                  have hpos' := Nat.le_of_ble_eq_true hpos
                  obtain ⟨⟨d, hud⟩, hrun⟩ := hg _ _ hk1
                  obtain ⟨b1, b2, h1, h2, rfl⟩ := cellsB_app hc
                  rw [List.drop_drop] at h2
                  rw [List.drop_drop] at h2
                  have ih := eqFields_run hg hr h2
                  have hl := cellsB_len hc
                  have hle1 : o + k1.length ≤ vs.length := by have := hl.1; simp at this; omega
                  have hle2 : o + k1.length ≤ us.length := by have := hl.2; simp at this; omega
                  have hs : (P.info? f.type).map (·.size) = some k1.length := by rw [hinf]; simp [hsz']
                  have key : ∀ ws : List Value, o + k1.length ≤ ws.length → (part f.type ws.toArray f.offset).run P w = .ok (valT P f.type ((ws.drop o).take k1.length)) w := by
                    intro ws hw
                    rw [ho', run_part hs hud ws o w hw (by omega)]
                    unfold valT
                    cases aggB (P.underlying f.type) with
                    | true => rfl
                    | false =>
                      simp only [Bool.false_eq_true, if_false]
                      congr 1
                      simp [List.getD_eq_getElem?_getD, List.getElem?_take, show 0 < k1.length by omega, List.getElem?_drop]
                  have hn' : f.name ≠ "_" := by simpa using hn
                  have he := hrun _ _ _ h1
                  rw [Op.eqFields]
                  simp only [if_pos hn', Sem.run_bind, key vs hle1, key us hle2, he, Result.andThen_ok]
                  cases b1
                  · simp
                  · simpa using ih

theorem kindsT_run {P : Program} {w : World} : ∀ {d : Nat} {t : TypeId} {ks : List SK} (e : Nat), kindsT P d t = some ks → (∃ d, P.underlying t = some d) ∧ ∀ vs us b, cellsB ks vs us = some b → (Op.equalIn (d + e) t (valT P t vs) (valT P t us)).run P w = .ok b w
  | 0, t, ks, e, h => by cases h
  | d + 1, t, ks, e, h => by
    simp only [kindsT] at h
    split at h
    · rename_i k hu
      cases h
      refine ⟨⟨_, hu⟩, fun vs us b hc => ?_⟩
      have ha : ∀ ws, valT P t ws = ws.getD 0 undef := fun ws => by unfold valT; rw [hu]; rfl
      rw [ha, ha]
      obtain ⟨h1, h2⟩ := cellsB_len hc
      match vs, us, h1, h2 with
      | [v], [u], _, _ =>
        unfold cellsB at hc
        split at hc
        · rename_i heq _ _; cases heq
        · rename_i e0 e1 e2; cases e0; cases e1; cases e2
          split at hc
          · rename_i hkk
            obtain ⟨rfl, rfl⟩ := hkk
            simp [cellsB] at hc
            subst hc
            rw [show d + 1 + e = (d + e) + 1 by omega]
            simpa using run_equalIn_int (P := P) w (d + e) t _ _ _ _ hu
          · cases hc
        · rename_i e0 e1 e2; cases e0
        · rename_i e0 e1 e2; cases e0
        · cases hc
    · rename_i hu
      cases h
      refine ⟨⟨_, hu⟩, fun vs us b hc => ?_⟩
      have ha : ∀ ws, valT P t ws = ws.getD 0 undef := fun ws => by unfold valT; rw [hu]; rfl
      rw [ha, ha]
      obtain ⟨h1, h2⟩ := cellsB_len hc
      match vs, us, h1, h2 with
      | [v], [u], _, _ =>
        unfold cellsB at hc
        split at hc
        · rename_i heq _ _; cases heq
        · rename_i e0 e1 e2; cases e0
        · rename_i e0 e1 e2; cases e0; cases e1; cases e2
          simp [cellsB] at hc
          subst hc
          rw [show d + 1 + e = (d + e) + 1 by omega]
          simpa using run_equalIn_bool' (P := P) w (d + e) t _ _ hu
        · rename_i e0 e1 e2; cases e0
        · cases hc
    · rename_i hu
      cases h
      refine ⟨⟨_, hu⟩, fun vs us b hc => ?_⟩
      have ha : ∀ ws, valT P t ws = ws.getD 0 undef := fun ws => by unfold valT; rw [hu]; rfl
      rw [ha, ha]
      obtain ⟨h1, h2⟩ := cellsB_len hc
      match vs, us, h1, h2 with
      | [v], [u], _, _ =>
        unfold cellsB at hc
        split at hc
        · rename_i heq _ _; cases heq
        · rename_i e0 e1 e2; cases e0
        · rename_i e0 e1 e2; cases e0
        · rename_i e0 e1 e2; cases e0; cases e1; cases e2
          simp [cellsB] at hc
          subst hc
          rw [show d + 1 + e = (d + e) + 1 by omega]
          simpa [strEq] using run_equalIn_string (P := P) w (d + e) t _ _ hu
        · cases hc
    · rename_i fs hu
      split at h
      · cases h
      · rename_i hsi
        refine ⟨⟨_, hu⟩, fun vs us b hc => ?_⟩
        have ha : ∀ ws, valT P t ws = .agg ws.toArray := fun ws => by unfold valT; rw [hu]; rfl
        rw [ha, ha, show d + 1 + e = (d + e) + 1 by omega]
        have hf : P.fieldsOf t = fs := by simp [Program.fieldsOf, hu]
        rw [run_equalIn_struct (P := P) w (d + e) t vs.toArray us.toArray (by rw [hf]; exact hu) hsi, hf]
        exact eqFields_run (fun t ks h => kindsT_run e h) h (by simpa using hc)
    · cases h

/-! ### Checking a table -/
def eqKs : List SK → List SK → Bool
  | [], [] => true
  | .int k :: a, .int j :: b => decide (k = j) && eqKs a b
  | .bool :: a, .bool :: b => eqKs a b
  | .string :: a, .string :: b => eqKs a b
  | _, _ => false
theorem eqKs_ok : ∀ {a b : List SK}, eqKs a b = true → a = b
  | [], [], _ => rfl
  | .int k :: a, .int j :: b, h => by
    simp only [eqKs, Bool.and_eq_true] at h
    rw [of_decide_eq_true h.1, eqKs_ok h.2]
  | .bool :: a, .bool :: b, h => by rw [eqKs_ok (a := a) (b := b) h]
  | .string :: a, .string :: b, h => by rw [eqKs_ok (a := a) (b := b) h]
  | [], _ :: _, h => by simp [eqKs] at h
  | .int _ :: _, [], h => by simp [eqKs] at h
  | .bool :: _, [], h => by simp [eqKs] at h
  | .string :: _, [], h => by simp [eqKs] at h
  | .int _ :: _, .bool :: _, h => by simp [eqKs] at h
  | .int _ :: _, .string :: _, h => by simp [eqKs] at h
  | .bool :: _, .int _ :: _, h => by simp [eqKs] at h
  | .bool :: _, .string :: _, h => by simp [eqKs] at h
  | .string :: _, .int _ :: _, h => by simp [eqKs] at h
  | .string :: _, .bool :: _, h => by simp [eqKs] at h

/-- Noughts of one cell. -/
def eqZ : Value → Value → Bool
  | .int k 0, .int j 0 => decide (k = j)
  | .bool false, .bool false => true
  | .string a, .string b => Nat.beq a.size 0 && Nat.beq b.size 0
  | .slice none 0 0, .slice none 0 0 => true
  | .pointer none, .pointer none => true
  | .nilFunc, .nilFunc => true
  | _, _ => false
theorem eqZ_ok {a b : Value} (h : eqZ a b = true) : a = b := by
  unfold eqZ at h
  split at h <;> first
    | rfl
    | (rw [of_decide_eq_true h])
    | (simp only [Bool.and_eq_true] at h
       rename_i x y
       have h1 : x.size = 0 := nbeq_eq h.1
       have h2 : y.size = 0 := nbeq_eq h.2
       congr 1
       obtain ⟨x⟩ := x
       obtain ⟨y⟩ := y
       congr 1
       have e1 : x.size = 0 := h1
       have e2 : y.size = 0 := h2
       rw [Array.eq_empty_of_size_eq_zero e1, Array.eq_empty_of_size_eq_zero e2])
    | cases h
def eqZs : List Value → List Value → Bool
  | [], [] => true
  | a :: l, b :: m => eqZ a b && eqZs l m
  | _, _ => false
theorem eqZs_ok : ∀ {l m : List Value}, eqZs l m = true → l = m
  | [], [], _ => rfl
  | a :: l, b :: m, h => by
    simp only [eqZs, Bool.and_eq_true] at h
    rw [eqZ_ok h.1, eqZs_ok h.2]
  | [], _ :: _, h => by simp [eqZs] at h
  | _ :: _, [], h => by simp [eqZs] at h

def fieldB (P : Program) (f : Field) (x : Nat × Nat × Nat × Bool) : Bool :=
  Nat.beq f.type x.1 && Nat.beq f.offset x.2.1 && Nat.ble 1 x.2.2.1 && beqB (aggB (P.underlying f.type)) x.2.2.2 &&
    (match P.info? f.type with | some i => Nat.beq i.size x.2.2.1 | none => false) && (P.underlying f.type).isSome
def fieldsB (P : Program) : List Field → List (Nat × Nat × Nat × Bool) → Bool
  | [], [] => true
  | f :: fs, x :: xs => fieldB P f x && fieldsB P fs xs
  | _, _ => false

def aggV : Value → Bool
  | .agg _ => true
  | _ => false
def tyB (P : Program) (t : TypeId) (i : TyI) : Bool :=
  (match P.info? t with
    | some inf => Nat.beq inf.size i.size && Nat.beq inf.bytes i.bytes && (match inf.zero with
      | some z => eqZs z.cells.toList i.zero && beqB (aggV z) i.agg && (i.agg || z.oneCell')
      | none => false)
    | none => false) &&
  (match i.d, P.underlying t with
    | .int k, some (.int j) => decide (j = k)
    | .bool, some .bool => true
    | .string, some .string => true
    | .slice e, some (.slice f) => Nat.beq f e
    | .pointer e, some (.pointer f) => Nat.beq f e
    | .struct fs, some (.struct F) => fieldsB P F.toList fs
    | .func, some _ => true
    | .other, some _ => true
    | _, _ => false) &&
  beqB (aggB (P.underlying t)) i.agg && Nat.beq i.zero.length i.size && allSc i.zero && Nat.ble 1 i.size && Nat.ble i.bytes 32768 &&
  (match i.ks with
    | [] => true
    | ks => !P.eqGuardType P.depth t && aggB (P.underlying t) && (match kindsT P 12 t with | some js => eqKs js ks | none => false))

theorem beqB_eq {a b : Bool} (h : beqB a b = true) : a = b := by revert h; cases a <;> cases b <;> simp [beqB]

theorem fieldsB_ok {P : Program} : ∀ {fs : List Field} {xs : List (Nat × Nat × Nat × Bool)}, fieldsB P fs xs = true → fs.length = xs.length ∧ ∀ (j : Nat) (x : Nat × Nat × Nat × Bool), xs[j]? = some x → ∃ f : Field, fs[j]? = some f ∧ FieldOk P f x
  | [], [], _ => ⟨rfl, fun j x h => by simp at h⟩
  | f :: fs, x :: xs, h => by
    simp only [fieldsB, Bool.and_eq_true] at h
    obtain ⟨h1, h2⟩ := h
    obtain ⟨h3, h4⟩ := fieldsB_ok h2
    refine ⟨by simp [h3], fun j y hj => ?_⟩
    cases j with
    | zero =>
      simp at hj; subst hj
      refine ⟨f, rfl, ?_⟩
      simp only [fieldB, Bool.and_eq_true] at h1
      obtain ⟨⟨⟨⟨⟨a1, a2⟩, a3⟩, a4⟩, a5⟩, a6⟩ := h1
      refine ⟨nbeq_eq a1, nbeq_eq a2, ?_, Nat.le_of_ble_eq_true a3, beqB_eq a4, Option.isSome_iff_exists.1 a6⟩
      split at a5
      · rename_i i e; rw [e]; simp [nbeq_eq a5]
      · cases a5
    | succ j => simpa using h4 j y (by simpa using hj)
  | [], _ :: _, h => by simp [fieldsB] at h
  | _ :: _, [], h => by simp [fieldsB] at h

theorem tyB_ok {P : Program} {t : TypeId} {i : TyI} (h : tyB P t i = true) : TyOk P t i := by
  simp only [tyB, Bool.and_eq_true] at h
  obtain ⟨⟨⟨⟨⟨⟨⟨h1, h2⟩, h3⟩, h4⟩, h5⟩, h6⟩, h7⟩, h8⟩ := h
  have hagg := beqB_eq h3
  refine ⟨?_, ?_, hagg, ?_, nbeq_eq h4, h5, Nat.le_of_ble_eq_true h6, Nat.le_of_ble_eq_true h7, fun hne => ?_⟩
  · split at h1
    · rename_i inf e
      simp only [Bool.and_eq_true] at h1
      obtain ⟨⟨a1, a2⟩, a3⟩ := h1
      split at a3
      · rename_i z ez
        simp only [Bool.and_eq_true] at a3
        obtain ⟨⟨b1, b2⟩, b3⟩ := a3
        refine ⟨inf, z, e, nbeq_eq a1, nbeq_eq a2, ez, eqZs_ok b1, fun hf => ?_, fun ht => ?_⟩
        · rw [hf] at b3; simpa using b3
        · have := beqB_eq b2
          rw [ht] at this
          unfold aggV at this
          split at this
          · exact ⟨_, rfl⟩
          · cases this
      · cases a3
    · cases h1
  · split at h2
    · rename_i e1 e2; rw [e1]; simp only; rw [e2, of_decide_eq_true h2]
    · rename_i e1 e2; rw [e1]; exact e2
    · rename_i e1 e2; rw [e1]; exact e2
    · rename_i e1 e2; rw [e1]; simp only; rw [e2, nbeq_eq h2]
    · rename_i e1 e2; rw [e1]; simp only; rw [e2, nbeq_eq h2]
    · rename_i e1 e2; rw [e1]; simp only
      obtain ⟨a1, a2⟩ := fieldsB_ok h2
      exact ⟨_, e2, by simpa using a1, fun j x hj => by
        obtain ⟨f, b1, b2⟩ := a2 j x hj
        exact ⟨f, by simpa using b1, b2⟩⟩
    · rename_i e1 e2; rw [e1]; trivial
    · rename_i e1 e2; rw [e1]; trivial
    · cases h2
  · revert h2
    cases e : P.underlying t with
    | none => cases i.d <;> intro h2 <;> simp at h2
    | some d => exact fun _ => ⟨d, rfl⟩
  · cases hk : i.ks with
    | nil => exact absurd hk hne
    | cons k ks =>
      rw [hk] at h8
      simp only [Bool.and_eq_true] at h8
      obtain ⟨⟨c1, c2⟩, c3⟩ := h8
      refine ⟨by simpa using c1, fun E g l m K vs us w hc hv hu => ?_⟩
      obtain ⟨b, hb, hcb⟩ := eqCells_B hc hv hu
      split at c3
      · rename_i js ej
        have := eqKs_ok c3
        subst this
        have h9 := (kindsT_run (w := w) 9988 ej).2 vs us b hcb
        have ha : ∀ ws, valT P t ws = .agg ws.toArray := fun ws => by unfold valT; rw [if_pos c2]
        rw [ha, ha] at h9
        exact ⟨b, hb, h9⟩
      · cases c3

def tabB (P : Program) : Tab → Bool
  | [] => true
  | (t, i) :: T => tyB P t i && tabB P T
theorem tabB_ok {P : Program} : ∀ {T : Tab}, tabB P T = true → TOk P T
  | [], _ => fun p hp => by simp at hp
  | (t, i) :: T, h => by
    simp only [tabB, Bool.and_eq_true] at h
    intro p hp
    rcases List.mem_cons.1 hp with rfl | hp
    · exact tyB_ok h.1
    · exact tabB_ok h.2 p hp
end Go.Vm
