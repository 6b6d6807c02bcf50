/- Contracts: cursors over the bytes of a draw. -/
import Derived.Test.YtlbeppaimfpchaaKa
import Derived.WalkKit
import Derived.Lib.Walk
import Derived.Lib.SliceRun
import Derived.Lib.Overlaps
import Derived.Lib.AppendZerosOnto
import Derived.Laws.Externs
import Derived.Laws.IdiomCopy
import Derived.Shelf.RegionOpenPlain
namespace Go.Vm
open Go.Proofs
set_option maxRecDepth 100000
set_option linter.unusedVariables false
set_option linter.unusedSimpArgs false

structure CurX where
  b : List UInt8
  i : Int
  h : Int
  hb : b.length ≤ 1048576
  h1 : 0 ≤ i
  h2 : i ≤ b.length
  h3 : -9223372036854775808 ≤ h
  h4 : h ≤ 9223372036854775807
def CurX.d (c : CurX) : D := .box [.sh (.row 1 encB c.b), .lf (.int .i64 c.i), .lf (.int .i64 c.h)]
theorem wrap_lo (n : Int) : -9223372036854775808 ≤ IntKind.i64.wrap n := by simp [IntKind.wrap, IntKind.bits, IntKind.signed]; omega
theorem wrap_hi (n : Int) : IntKind.i64.wrap n ≤ 9223372036854775807 := by simp [IntKind.wrap, IntKind.bits, IntKind.signed]; omega
theorem and255 (a : Int) : 0 ≤ IntKind.i64.wrap ((BitVec.ofInt 64 a &&& BitVec.ofInt 64 255).toNat : Int) ∧ IntKind.i64.wrap ((BitVec.ofInt 64 a &&& BitVec.ofInt 64 255).toNat : Int) ≤ 255 := by
  have h : (BitVec.ofInt 64 a &&& BitVec.ofInt 64 255).toNat ≤ 255 := by
    rw [BitVec.toNat_and]
    exact Nat.le_trans Nat.and_le_right (by decide)
  rw [w64 (by omega) (by omega)]; omega
/-- What a draw of a number tells: it is within bounds. -/
def cByte : Con := { X := CurX, params := [(.mut, false)], res := [false], resOwn := true, ins := fun c => [[c.d]], post := fun _ outs r => ∃ (c : CurX) (v : Int), outs = [[c.d]] ∧ r = [[.lf (.int .i64 v)]] ∧ 0 ≤ v ∧ v ≤ 255 }
structure CodeX where
  b : List UInt8
  hb : b.length ≤ 1048576
def cNew : Con := { X := CodeX, params := [(.keep, false)], res := [false], resOwn := true, ins := fun c => [[.row 1 encB c.b]], post := fun _ outs r => outs = [] ∧ ∃ c : CurX, r = [[c.d]] }
theorem ev_l01New : ∀ x, evFnX tab [] cNew Try.f107 (body Try.f107) x := by
  rintro ⟨l, hb⟩
  conv => whnf
  intro _
  conv => whnf
  have hw : IntKind.i64.wrap (789392 + (l.length : Int)) = 789392 + (l.length : Int) := w64 (by omega) (by omega)
  refine ⟨fun m s h => ∃ (i : Nat) (q : Int), i ≤ l.length ∧ m = l.length - i ∧ -9223372036854775808 ≤ q ∧ q ≤ 9223372036854775807 ∧ s = [(0, .sl 0 none), (3, .lf (.int .i64 q)), (4, .lf (.int .i64 i))] ∧ h = [(0, some (.row .ro 1 encB l))],
    l.length, [(0, 0)], [(0, .sl 0 none), (3, .lf (.int .i64 _)), (4, .lf (.int .i64 0))], [(0, some (.row .ro 1 encB l))], ⟨rfl, ⟨rfl, rfl, rfl, trivial⟩, rfl, trivial⟩, ⟨0, _, by omega, by omega, wrap_lo _, wrap_hi _, rfl, rfl⟩, ?_⟩
  rintro m _ _ ⟨i, q, g1, rfl, g2, g3, rfl, rfl⟩
  conv => whnf
  intro _
  conv => whnf
  have out : ∃ c : CurX, [[D.box [.sh (.row 1 encB l), .lf (.int .i64 0), .lf (.int .i64 q)]]] = [[c.d]] := ⟨⟨l, 0, q, hb, by omega, by omega, g2, g3⟩, rfl⟩
  refine br2 (fun h5 => ?_) (fun h5 => ?_)
  · have hi : i < l.length := by have := of_decide_eq_true h5; omega
    obtain ⟨y, hy⟩ := getL hi
    conv => whnf
    refine br2 (fun h6 => ?_) (fun h6 => ?_)
    · conv => whnf
      refine ⟨Int.natCast_nonneg _, (show (i : Int) < (l.length : Int) by omega), ?_⟩
      conv => whnf
      refine ex2 y (nthI hy) ?_
      conv => whnf
      refine ⟨l.length - (i + 1), [(0, 0)], [(0, .sl 0 none), (3, .lf (.int .i64 _)), (4, .lf (.int .i64 ((i + 1 : Nat) : Int)))], [(0, some (.row .ro 1 encB l))], by omega, ⟨rfl, ⟨rfl, rfl, ?_, trivial⟩, rfl, trivial⟩, i + 1, _, by omega, rfl, wrap_lo _, wrap_hi _, rfl, rfl⟩
      show V.lf (.int .i64 (IntKind.i64.wrap ((i : Int) + 1))) = _
      rw [w64 (by omega) (by omega)]; rfl
    · conv => whnf
      exact ⟨⟨rfl, out⟩⟩
  · conv => whnf
    exact ⟨⟨rfl, out⟩⟩
theorem l01New_ok : FnOk Try.prog 107 cNew := fnOk_of fun x => fnX_at tab_ok (SOk.nil) mixed (fn := Try.f107) (code := body Try.f107) ⟨Try.func107, rfl, by kernel_rfl, by kernel_rfl, by kernel_rfl, by kernel_rfl⟩ (ev_l01New x)
theorem ev_l01Byte : ∀ x, evFnX tab [] cByte Try.f183 (body Try.f183) x := by
  rintro ⟨l, i, q, hb, h1, h2, h3, h4⟩
  replace hb : l.length ≤ 1048576 := hb
  replace h2 : i ≤ (l.length : Int) := h2
  conv => whnf
  intro _
  conv => whnf
  refine br2 (fun h5 => ?_) (fun h5 => ?_)
  · have hi : i < (l.length : Int) := of_decide_eq_true h5
    obtain ⟨y, hy⟩ := getL (l := l) (j := i.toNat) (by omega)
    have hy2 : nth l i.toNat = some y := by rw [nth_eq]; exact hy
    conv => whnf
    refine ⟨h1, hi, ?_⟩
    conv => whnf
    refine ex2 y hy2 ?_
    conv => whnf
    repeat ((first | refine rc_i rfl ?_ | refine rc_i (fun _ => rfl) ?_); conv => whnf)
    have e1 : IntKind.i64.wrap (i + 1) = i + 1 := w64 (by omega) (by omega)
    refine ⟨⟨⟨l, IntKind.i64.wrap (i + 1), IntKind.i64.wrap (IntKind.i64.wrap (q * 6364136223846793005) + 1442695040888963407), hb, by omega, by omega, wrap_lo _, wrap_hi _⟩, _, rfl, rfl, (and255 _).1, (and255 _).2⟩⟩
  · conv => whnf
    exact ⟨⟨⟨l, i, _, hb, h1, h2, wrap_lo _, wrap_hi _⟩, _, rfl, rfl, (and255 _).1, (and255 _).2⟩⟩
theorem l01Byte_ok : FnOk Try.prog 183 cByte := fnOk_of fun x => fnX_at tab_ok (SOk.nil) mixed (fn := Try.f183) (code := body Try.f183) ⟨Try.func183, rfl, by kernel_rfl, by kernel_rfl, by kernel_rfl, by kernel_rfl⟩ (ev_l01Byte x)
structure BelowX where
  c : CurX
  n : Int
  h : n ≤ 9223372036854775807
def cBelow : Con := { X := BelowX, params := [(.mut, false), (.rd, false)], res := [false], resOwn := true, ins := fun x => [[x.c.d], [.lf (.int .i64 x.n)]], post := fun x outs r => ∃ (c : CurX) (v : Int), outs = [[c.d]] ∧ r = [[.lf (.int .i64 v)]] ∧ 0 ≤ v ∧ (0 < x.n → v < x.n) ∧ (x.n ≤ 0 → v = 0) }
theorem ev_l01Below : ∀ x, evFnX tab [(183, cByte)] cBelow Try.f125 (body Try.f125) x := by
  rintro ⟨c, n, h⟩
  conv => whnf
  refine br2 (fun h5 => ?_) (fun h5 => ?_)
  · have h5' : n ≤ 0 := of_decide_eq_true h5
    conv => whnf
    exact ⟨⟨c, 0, rfl, rfl, by omega, fun h => absurd h (show ¬ 0 < n by omega), fun _ => rfl⟩⟩
  have h5' : 0 < n := by have h6 : ¬ n ≤ 0 := of_decide_eq_false h5; omega
  have hrem : ∀ a : Int, 0 ≤ a → 0 ≤ a.tmod n ∧ a.tmod n < n := fun a ha => ⟨Int.tmod_nonneg _ ha, Int.tmod_lt_of_pos _ h5'⟩
  conv => whnf
  refine br2 (fun h6 => ?_) (fun h6 => ?_)
  · conv => whnf
    refine ⟨c, rfl, ?_⟩
    rintro _ _ ⟨c1, v1, rfl, rfl, a1, b1⟩
    conv => whnf
    refine br2 (fun h7 => ?_) (fun h7 => ?_)
    · exfalso; have : n = 0 := of_decide_eq_true h7; omega
    conv => whnf
    exact ⟨⟨c1, v1.tmod n, rfl, rfl, (hrem v1 a1).1, fun _ => (hrem v1 a1).2, fun h => absurd h (show ¬ n ≤ 0 by omega)⟩⟩
  conv => whnf
  refine ⟨c, rfl, ?_⟩
  rintro _ _ ⟨c1, v1, rfl, rfl, a1, b1⟩
  conv => whnf
  refine ⟨c1, rfl, ?_⟩
  rintro _ _ ⟨c2, v2, rfl, rfl, a2, b2⟩
  conv => whnf
  refine ⟨c2, rfl, ?_⟩
  rintro _ _ ⟨c3, v3, rfl, rfl, a3, b3⟩
  conv => whnf
  refine ⟨c3, rfl, ?_⟩
  rintro _ _ ⟨c4, v4, rfl, rfl, a4, b4⟩
  conv => whnf
  refine br2 (fun h7 => ?_) (fun h7 => ?_)
  · exfalso; have : n = 0 := of_decide_eq_true h7; omega
  conv => whnf
  have e1 : 0 ≤ IntKind.i64.wrap (IntKind.i64.wrap (IntKind.i64.wrap (IntKind.i64.wrap (v1 * 16777216) + IntKind.i64.wrap (v2 * 65536)) + IntKind.i64.wrap (v3 * 256)) + v4) := by
    rw [w64 (n := v1 * 16777216) (by omega) (by omega), w64 (n := v2 * 65536) (by omega) (by omega), w64 (n := v3 * 256) (by omega) (by omega), w64 (n := v1 * 16777216 + v2 * 65536) (by omega) (by omega),
      w64 (n := v1 * 16777216 + v2 * 65536 + v3 * 256) (by omega) (by omega), w64 (by omega) (by omega)]
    omega
  exact ⟨⟨c4, _, rfl, rfl, (hrem _ e1).1, fun _ => (hrem _ e1).2, fun h => absurd h (show ¬ n ≤ 0 by omega)⟩⟩
theorem l01Below_ok : FnOk Try.prog 125 cBelow := fnOk_of fun x => fnX_at tab_ok (SOk.cons l01Byte_ok SOk.nil) mixed (fn := Try.f125) (code := body Try.f125) ⟨Try.func125, rfl, by kernel_rfl, by kernel_rfl, by kernel_rfl, by kernel_rfl⟩ (ev_l01Below x)
/-- A draw: what it tells has property P. -/
def cDraw {α : Type} (g : Bool) (enc : α → List D) (P : α → Prop) : Con := { X := CurX, params := [(.mut, false)], res := [g], resOwn := true, ins := fun c => [[c.d]], post := fun _ outs r => ∃ (c : CurX) (a : α), outs = [[c.d]] ∧ r = [enc a] ∧ P a }
def intE (n : Int) : List D := [.lf (.int .i64 n)]
def strE (s : ByteArray) : List D := [.lf (.string s)]
/-- One of a few texts, of a few numbers. -/
def strEls (k : Nat) : List (List V) → Bool
  | [] => true
  | [.lf (.string s)] :: r => match Nat.ble s.size k with | true => strEls k r | false => false
  | _ => false
def intEls : List (List V) → Bool
  | [] => true
  | [.lf (.int .i64 n)] :: r => match decide (-9223372036854775808 ≤ n), decide (n ≤ 9223372036854775807) with | true, true => intEls r | _, _ => false
  | _ => false
theorem exStr (k : Nat) {els : List (List V)} {i : Nat} {Q : List V → Prop} (ha : strEls k els = true) (hi : i < els.length) (h : ∀ s : ByteArray, s.size ≤ k → Q [.lf (.string s)]) : ex (nth els i) Q := by
  induction els generalizing i with
  | nil => simp at hi
  | cons e r ih =>
    unfold strEls at ha
    split at ha
    · rename_i h0; cases h0
    · rename_i s r' h0
      cases h0
      split at ha
      · rename_i hs
        cases i with
        | zero => exact h s (Nat.le_of_ble_eq_true hs)
        | succ i => exact ih ha (by simpa using hi)
      · cases ha
    · cases ha
theorem exInt {els : List (List V)} {i : Nat} {Q : List V → Prop} (ha : intEls els = true) (hi : i < els.length) (h : ∀ n : Int, -9223372036854775808 ≤ n → n ≤ 9223372036854775807 → Q [.lf (.int .i64 n)]) : ex (nth els i) Q := by
  induction els generalizing i with
  | nil => simp at hi
  | cons e r ih =>
    unfold intEls at ha
    split at ha
    · rename_i h0; cases h0
    · rename_i s r' h0
      cases h0
      split at ha
      · rename_i hs1 hs2
        cases i with
        | zero => exact h s (of_decide_eq_true hs1) (of_decide_eq_true hs2)
        | succ i => exact ih ha (by simpa using hi)
      · cases ha
    · cases ha
def intP (n : Int) : Prop := -9223372036854775808 ≤ n ∧ n ≤ 9223372036854775807
def strP (k : Nat) (s : ByteArray) : Prop := s.size ≤ k
theorem useBelow {c : CurX} {n : Int} {ds : List (List D)} {Q : List (List D) → List (List D) → Prop} (hd : [[c.d], [.lf (.int .i64 n)]] = ds) (hn : n ≤ 9223372036854775807)
    (h : ∀ (c' : CurX) (v : Int), 0 ≤ v → (0 < n → v < n) → (n ≤ 0 → v = 0) → Q [[c'.d]] [[.lf (.int .i64 v)]]) : ∃ x, cBelow.ins x = ds ∧ ∀ outs res, cBelow.post x outs res → Q outs res := by
  refine ⟨⟨c, n, hn⟩, hd, ?_⟩
  rintro _ _ ⟨c1, v, rfl, rfl, a1, a2, a3⟩
  exact h c1 v a1 a2 a3
theorem useDraw {α : Type} {g : Bool} {enc : α → List D} {P : α → Prop} {c : CurX} {ds : List (List D)} {Q : List (List D) → List (List D) → Prop} (hd : [[c.d]] = ds)
    (h : ∀ (c' : CurX) (a : α), P a → Q [[c'.d]] [enc a]) : ∃ x, (cDraw g enc P).ins x = ds ∧ ∀ outs res, (cDraw g enc P).post x outs res → Q outs res := by
  refine ⟨c, hd, ?_⟩
  rintro _ _ ⟨c1, a, rfl, rfl, a1⟩
  exact h c1 a a1
theorem ev_l08User : ∀ x, evFnX tab [(125, cBelow)] (cDraw false strE (strP 16)) Try.f209 (body Try.f209) x := by
  intro c
  conv => whnf
  refine useBelow (c := c) (n := 24) rfl (by decide) fun c v a1 a2 _ => ?_
  replace a2 : v < 24 := a2 (by decide)
  conv => whnf
  have h1 : 0 ≤ v.tmod 12 := Int.tmod_nonneg _ a1
  have h2 : v.tmod 12 < 12 := Int.tmod_lt_of_pos _ (by decide)
  refine ⟨h1, h2, ?_⟩
  conv => whnf
  refine exStr 16 ?_ ?_ fun s hs => ?_
  · rfl
  · show (v.tmod 12).toNat < 12; omega
  conv => whnf
  exact ⟨⟨c, s, rfl, rfl, hs⟩⟩
theorem l08User_ok : FnOk Try.prog 209 (cDraw false strE (strP 16)) := fnOk_of fun x => fnX_at tab_ok (SOk.cons l01Below_ok SOk.nil) mixed (fn := Try.f209) (code := body Try.f209) ⟨Try.func209, rfl, by kernel_rfl, by kernel_rfl, by kernel_rfl, by kernel_rfl⟩ (ev_l08User x)
theorem ev_l08Uval : ∀ x, evFnX tab [(125, cBelow)] (cDraw false strE (strP 20)) Try.f210 (body Try.f210) x := by
  intro c
  conv => whnf
  refine useBelow (c := c) (n := 6) rfl (by decide) fun c v a1 a2 _ => ?_
  replace a2 : v < 6 := a2 (by decide)
  conv => whnf
  refine ⟨a1, a2, ?_⟩
  conv => whnf
  refine exStr 20 ?_ ?_ fun s hs => ?_
  · rfl
  · show v.toNat < 6; omega
  conv => whnf
  exact ⟨⟨c, s, rfl, rfl, hs⟩⟩
theorem l08Uval_ok : FnOk Try.prog 210 (cDraw false strE (strP 20)) := fnOk_of fun x => fnX_at tab_ok (SOk.cons l01Below_ok SOk.nil) mixed (fn := Try.f210) (code := body Try.f210) ⟨Try.func210, rfl, by kernel_rfl, by kernel_rfl, by kernel_rfl, by kernel_rfl⟩ (ev_l08Uval x)
theorem ev_l01Raw : ∀ x, evFnX tab [(125, cBelow)] (cDraw false intE intP) Try.f126 (body Try.f126) x := by
  intro c
  conv => whnf
  refine useBelow (c := c) (n := 10) rfl (by decide) fun c k k1 k2 _ => ?_
  have done : ∀ (c : CurX) (v : Int), intP v → ∃ (c' : CurX) (a : Int), [[c.d]] = [[c'.d]] ∧ [[D.lf (.int .i64 v)]] = [intE a] ∧ intP a := fun c v h => ⟨c, v, rfl, rfl, h⟩
  conv => whnf
  refine br2 (fun _ => ?_) (fun _ => ?_)
  · conv => whnf
    refine useBelow (c := c) (n := 20) rfl (by decide) fun c v a1 a2 _ => ?_
    replace a2 : v < 20 := a2 (by decide)
    conv => whnf
    exact ⟨done _ _ ⟨by omega, by omega⟩⟩
  conv => whnf
  refine br2 (fun _ => ?_) (fun _ => ?_)
  · conv => whnf
    refine useBelow (c := c) (n := 3) rfl (by decide) fun c v a1 a2 _ => ?_
    conv => whnf
    exact ⟨done _ _ ⟨wrap_lo _, wrap_hi _⟩⟩
  conv => whnf
  refine br2 (fun _ => ?_) (fun _ => ?_)
  · conv => whnf
    refine useBelow (c := c) (n := 2) rfl (by decide) fun c v a1 a2 _ => ?_
    conv => whnf
    exact ⟨done _ _ ⟨wrap_lo _, wrap_hi _⟩⟩
  conv => whnf
  refine br2 (fun _ => ?_) (fun _ => ?_)
  · conv => whnf
    refine useBelow (c := c) (n := 2) rfl (by decide) fun c v a1 a2 _ => ?_
    conv => whnf
    exact ⟨done _ _ ⟨wrap_lo _, wrap_hi _⟩⟩
  conv => whnf
  refine br2 (fun _ => ?_) (fun _ => ?_)
  · conv => whnf
    refine useBelow (c := c) (n := 2) rfl (by decide) fun c v a1 a2 _ => ?_
    conv => whnf
    exact ⟨done _ _ ⟨wrap_lo _, wrap_hi _⟩⟩
  conv => whnf
  refine br2 (fun _ => ?_) (fun _ => ?_)
  · conv => whnf
    refine useBelow (c := c) (n := 8) rfl (by decide) fun c v a1 a2 _ => ?_
    replace a2 : v < 8 := a2 (by decide)
    conv => whnf
    refine ⟨a1, a2, ?_⟩
    conv => whnf
    refine exInt ?_ ?_ fun s hs1 hs2 => ?_
    · rfl
    · show v.toNat < 8; omega
    conv => whnf
    exact ⟨done _ _ ⟨hs1, hs2⟩⟩
  conv => whnf
  refine useBelow (c := c) (n := 65536) rfl (by decide) fun c v a1 a2 _ => ?_
  conv => whnf
  exact ⟨done _ _ ⟨wrap_lo _, wrap_hi _⟩⟩
theorem l01Raw_ok : FnOk Try.prog 126 (cDraw false intE intP) := fnOk_of fun x => fnX_at tab_ok (SOk.cons l01Below_ok SOk.nil) mixed (fn := Try.f126) (code := body Try.f126) ⟨Try.func126, rfl, by kernel_rfl, by kernel_rfl, by kernel_rfl, by kernel_rfl⟩ (ev_l01Raw x)
theorem ev_l02Key : ∀ x, evFnX tab [(125, cBelow), (78, cNumText)] (cDraw false strE (strP 16)) Try.f181 (body Try.f181) x := by
  intro c
  conv => whnf
  refine useBelow (c := c) (n := 20) rfl (by decide) fun c k k1 k2 _ => ?_
  replace k2 : k < 20 := k2 (by decide)
  conv => whnf
  refine br2 (fun h => ?_) (fun _ => ?_)
  · have h1 : k < 16 := of_decide_eq_true h
    conv => whnf
    refine ⟨k1, h1, ?_⟩
    conv => whnf
    refine exStr 16 ?_ ?_ fun s hs => ?_
    · rfl
    · show k.toNat < 16; omega
    conv => whnf
    exact ⟨⟨c, s, rfl, rfl, hs⟩⟩
  conv => whnf
  refine br2 (fun h => ?_) (fun _ => ?_)
  · conv => whnf
    exact ⟨⟨c, ⟨#[0]⟩, rfl, rfl, (show (1 : Nat) ≤ 16 by decide)⟩⟩
  conv => whnf
  refine br2 (fun h => ?_) (fun _ => ?_)
  · conv => whnf
    exact ⟨⟨c, ⟨#[122,122,122,122,122,122,122,122,122,122,122,122,122,122,122,122]⟩, rfl, rfl, (show (16 : Nat) ≤ 16 by decide)⟩⟩
  conv => whnf
  refine useBelow (c := c) (n := 30) rfl (by decide) fun c v a1 a2 _ => ?_
  replace a2 : v < 30 := a2 (by decide)
  conv => whnf
  refine ⟨⟨v, by omega, by omega⟩, rfl, ?_⟩
  rintro _ _ ⟨rfl, rfl⟩
  have hs := numT_size v
  conv => whnf
  refine ⟨(show 1 + (numT v).size ≤ 4294967296 by omega), ?_⟩
  conv => whnf
  refine ⟨⟨c, ⟨#[107]⟩ ++ numT v, rfl, rfl, ?_⟩⟩
  show (ByteArray.mk #[107] ++ numT v).size ≤ 16
  rw [ByteArray.size_append]
  show 1 + (numT v).size ≤ 16
  omega
theorem l02Key_ok : FnOk Try.prog 181 (cDraw false strE (strP 16)) := fnOk_of fun x => fnX_at tab_ok (SOk.cons l01Below_ok (SOk.cons sNumText_ok SOk.nil)) mixed (fn := Try.f181) (code := body Try.f181) ⟨Try.func181, rfl, by kernel_rfl, by kernel_rfl, by kernel_rfl, by kernel_rfl⟩ (ev_l02Key x)
def rngE (r : RngX) : List D := r.ds
def rngP (k : Nat) (r : RngX) : Prop := r.lo.size ≤ k ∧ r.hi.size ≤ k
theorem ev_sKeyOk : ∀ x, evFnX tab [] cKeyOk Try.f142 (body Try.f142) x := by
  intro k
  repeat' ((conv => whnf); refine br2 (fun h => ?_) (fun h => ?_))
  all_goals (conv => whnf)
  all_goals refine ⟨⟨rfl, ?_⟩⟩
  · show _ = [[D.lf (.bool (keyOkB k))]]
    have h1 := of_decide_eq_true h
    unfold keyOkB
    rw [show decide (1 ≤ k.size) = true from decide_eq_true (by omega), Bool.true_and]
    congr 4
    exact decide_eq_decide.2 (by omega)
  · show _ = [[D.lf (.bool (keyOkB k))]]
    have h1 := of_decide_eq_false h
    unfold keyOkB
    rw [show decide (1 ≤ k.size) = false from decide_eq_false (by omega), Bool.false_and]
theorem sKeyOk_ok : FnOk Try.prog 142 cKeyOk := fnOk_of fun x => fnX_at tab_ok (SOk.nil) mixed (fn := Try.f142) (code := body Try.f142) ⟨Try.func142, rfl, by kernel_rfl, by kernel_rfl, by kernel_rfl, by kernel_rfl⟩ (ev_sKeyOk x)
structure PtX where
  s : ByteArray
  h : s.size ≤ 1000
def cPoint : Con := relC PtX [(.rd, false)] [true] (fun x => [[.lf (.string x.s)]]) (fun x r => ∃ q : RngX, r = [q.ds] ∧ rngP (x.s.size + 1) q)
theorem ev_pointOf : ∀ x, evFnX tab [(142, cKeyOk)] cPoint Try.f217 (body Try.f217) x := by
  rintro ⟨s, h⟩
  conv => whnf
  refine ⟨s, rfl, ?_⟩
  rintro _ _ ⟨rfl, rfl⟩
  conv => whnf
  refine br2 (fun h => ?_) (fun _ => ?_)
  · conv => whnf
    exact ⟨⟨rfl, ⟨⟨#[]⟩, ⟨#[]⟩⟩, rfl, Nat.zero_le _, Nat.zero_le _⟩⟩
  conv => whnf
  refine ⟨(show s.size + 1 ≤ 4294967296 by omega), ?_⟩
  conv => whnf
  refine ⟨⟨rfl, ⟨s, s ++ ⟨#[0]⟩⟩, rfl, Nat.le_succ _, ?_⟩⟩
  show (s ++ ByteArray.mk #[0]).size ≤ s.size + 1
  rw [ByteArray.size_append]; exact Nat.le_refl _
theorem pointOf_ok : FnOk Try.prog 217 cPoint := fnOk_of fun x => fnX_at tab_ok (SOk.cons sKeyOk_ok SOk.nil) mixed (fn := Try.f217) (code := body Try.f217) ⟨Try.func217, rfl, by kernel_rfl, by kernel_rfl, by kernel_rfl, by kernel_rfl⟩ (ev_pointOf x)
theorem ev_l02Range : ∀ x, evFnX tab [(125, cBelow), (181, (cDraw false strE (strP 16))), (217, cPoint)] (cDraw true rngE (rngP 17)) Try.f182 (body Try.f182) x := by
  intro c
  conv => whnf
  refine useDraw (c := c) rfl fun c a ha => ?_
  replace ha : a.size ≤ 16 := ha
  conv => whnf
  refine useDraw (c := c) rfl fun c b hb => ?_
  replace hb : b.size ≤ 16 := hb
  conv => whnf
  refine useBelow (c := c) (n := 6) rfl (by decide) fun c v a1 a2 _ => ?_
  have h0 : (ByteArray.mk #[]).size ≤ 17 := by decide
  repeat' ((conv => whnf); first
    | refine br2 (fun _ => ?_) (fun _ => ?_)
    | exact ⟨⟨c, ⟨_, _⟩, rfl, rfl, h0, h0⟩⟩
    | exact ⟨⟨c, ⟨a, _⟩, rfl, rfl, Nat.le_succ_of_le ha, h0⟩⟩
    | exact ⟨⟨c, ⟨a, b⟩, rfl, rfl, Nat.le_succ_of_le ha, Nat.le_succ_of_le hb⟩⟩
    | exact ⟨⟨c, ⟨b, a⟩, rfl, rfl, Nat.le_succ_of_le hb, Nat.le_succ_of_le ha⟩⟩
    | (refine ⟨⟨a, by omega⟩, rfl, ?_⟩; rintro _ _ ⟨rfl, q, rfl, hq1, hq2⟩; (conv => whnf); exact ⟨⟨c, q, rfl, rfl, Nat.le_trans hq1 (Nat.succ_le_succ ha), Nat.le_trans hq2 (Nat.succ_le_succ ha)⟩⟩))
theorem l02Range_ok : FnOk Try.prog 182 (cDraw true rngE (rngP 17)) := fnOk_of fun x => fnX_at tab_ok (SOk.cons l01Below_ok (SOk.cons l02Key_ok (SOk.cons pointOf_ok SOk.nil))) mixed (fn := Try.f182) (code := body Try.f182) ⟨Try.func182, rfl, by kernel_rfl, by kernel_rfl, by kernel_rfl, by kernel_rfl⟩ (ev_l02Range x)
theorem ev_l08Reach : ∀ x, evFnX tab [(125, cBelow), (209, (cDraw false strE (strP 16))), (217, cPoint)] (cDraw true rngE (rngP 17)) Try.f229 (body Try.f229) x := by
  intro c
  conv => whnf
  refine useDraw (c := c) rfl fun c a ha => ?_
  replace ha : a.size ≤ 16 := ha
  conv => whnf
  refine useDraw (c := c) rfl fun c b hb => ?_
  replace hb : b.size ≤ 16 := hb
  have h0 : (ByteArray.mk #[]).size ≤ 17 := by decide
  conv => whnf
  refine br2 (fun _ => ?_) (fun _ => ?_)
  · conv => whnf
    refine ⟨⟨a, by omega⟩, rfl, ?_⟩
    rintro _ _ ⟨rfl, q, rfl, hq1, hq2⟩
    conv => whnf
    exact ⟨⟨c, q, rfl, rfl, Nat.le_trans hq1 (Nat.succ_le_succ ha), Nat.le_trans hq2 (Nat.succ_le_succ ha)⟩⟩
  conv => whnf
  refine useBelow (c := c) (n := 4) rfl (by decide) fun c v a1 a2 _ => ?_
  conv => whnf
  refine br2 (fun _ => ?_) (fun _ => ?_)
  · conv => whnf
    exact ⟨⟨c, ⟨a, _⟩, rfl, rfl, Nat.le_succ_of_le ha, h0⟩⟩
  conv => whnf
  exact ⟨⟨c, ⟨a, b⟩, rfl, rfl, Nat.le_succ_of_le ha, Nat.le_succ_of_le hb⟩⟩
theorem l08Reach_ok : FnOk Try.prog 229 (cDraw true rngE (rngP 17)) := fnOk_of fun x => fnX_at tab_ok (SOk.cons l01Below_ok (SOk.cons l08User_ok (SOk.cons pointOf_ok SOk.nil))) mixed (fn := Try.f229) (code := body Try.f229) ⟨Try.func229, rfl, by kernel_rfl, by kernel_rfl, by kernel_rfl, by kernel_rfl⟩ (ev_l08Reach x)
theorem ev_l02AnyRange : ∀ x, evFnX tab [(125, cBelow), (182, (cDraw true rngE (rngP 17)))] (cDraw true rngE (rngP 20)) Try.f124 (body Try.f124) x := by
  intro c
  conv => whnf
  refine useDraw (c := c) rfl fun c q hq => ?_
  obtain ⟨lo, hi⟩ := q
  obtain ⟨q1, q2⟩ : lo.size ≤ 17 ∧ hi.size ≤ 17 := hq
  have u1 : lo.size ≤ 20 := by omega
  have u2 : hi.size ≤ 20 := by omega
  conv => whnf
  refine useBelow (c := c) (n := 14) rfl (by decide) fun c k k1 k2 k3 => ?_
  clear k1 k2 k3
  have fin : ∀ (c : CurX) (lo hi : ByteArray), lo.size ≤ 20 → hi.size ≤ 20 → ∃ (c' : CurX) (a : RngX), [[c.d]] = [[c'.d]] ∧ [[D.lf (.string lo), D.lf (.string hi)]] = [rngE a] ∧ rngP 20 a := fun c lo hi h1 h2 => ⟨c, ⟨lo, hi⟩, rfl, rfl, h1, h2⟩
  have g1 : (k == 0) = true → k = 0 := fun h => eq_of_beq h
  have g2 : (k == 1) = true → k = 1 := fun h => eq_of_beq h
  have g3 : (k == 2) = true → k = 2 := fun h => eq_of_beq h
  have g4 : (k == 3) = true → k = 3 := fun h => eq_of_beq h
  have one : ∀ (c : CurX) (v : Int), 0 ≤ v → v < 2 → 0 ≤ IntKind.i64.wrap (17 + v) ∧ IntKind.i64.wrap (17 + v) ≤ 18 := fun c v h1 h2 => by rw [w64 (by omega) (by omega)]; omega
  conv => whnf
  refine br2 (fun h0 => ?_) (fun h0 => ?_)
  · obtain rfl := g1 h0
    conv => whnf
    exact ⟨fin _ _ _ (by first | exact u1 | exact u2) (by first | exact u1 | exact u2)⟩
  conv => whnf
  refine br2 (fun h0 => ?_) (fun h0 => ?_)
  · obtain rfl := g2 h0
    conv => whnf
    refine useBelow (c := c) (n := 2) rfl (by decide) fun c v a1 a2 _ => ?_
    replace a2 : v < 2 := a2 (by decide)
    obtain ⟨o1, o2⟩ := one c v a1 a2
    conv => whnf
    refine ⟨o1, rfl, Int.le_trans o2 (by decide), ?_⟩
    conv => whnf
    refine ⟨UInt8, encB, 0, fun _ => rfl, rfl, ?_⟩
    conv => whnf
    refine ⟨List.replicate (IntKind.i64.wrap (17 + v)).toNat 0, rfl, ?_⟩
    conv => whnf
    refine ⟨fin _ _ _ ?_ u2⟩
    show (List.replicate (IntKind.i64.wrap (17 + v)).toNat (0 : UInt8)).toArray.size ≤ 20
    simp; omega
  conv => whnf
  refine br2 (fun h0 => ?_) (fun h0 => ?_)
  · obtain rfl := g3 h0
    conv => whnf
    refine useBelow (c := c) (n := 2) rfl (by decide) fun c v a1 a2 _ => ?_
    replace a2 : v < 2 := a2 (by decide)
    conv => whnf
    refine ⟨a1, a2, ?_⟩
    conv => whnf
    refine exStr 1 ?_ ?_ fun s hs => ?_
    · rfl
    · show v.toNat < 2; omega
    conv => whnf
    refine ⟨(show 17 + s.size ≤ 4294967296 by omega), ?_⟩
    conv => whnf
    refine ⟨fin _ _ _ u1 ?_⟩
    rw [ByteArray.size_append]
    show 17 + s.size ≤ 20
    omega
  conv => whnf
  refine br2 (fun h0 => ?_) (fun h0 => ?_)
  · conv => whnf
    exact ⟨fin _ _ _ (by first | exact u1 | exact u2) (by first | exact u1 | exact u2)⟩
  conv => whnf
  exact ⟨fin _ _ _ (by first | exact u1 | exact u2) (by first | exact u1 | exact u2)⟩
theorem l02AnyRange_ok : FnOk Try.prog 124 (cDraw true rngE (rngP 20)) := fnOk_of fun x => fnX_at tab_ok (SOk.cons l01Below_ok (SOk.cons l02Range_ok SOk.nil)) mixed (fn := Try.f124) (code := body Try.f124) ⟨Try.func124, rfl, by kernel_rfl, by kernel_rfl, by kernel_rfl, by kernel_rfl⟩ (ev_l02AnyRange x)
end Go.Vm
namespace Go.Vm
open Go.Proofs
set_option maxRecDepth 100000
set_option linter.unusedVariables false
set_option linter.unusedSimpArgs false

/-! A sub: a leaf's pairs or a branch's kids, told n levels deep -/
def subE : Nat → Tw → List D
  | 0, _ => [.dead, .dead, .dead]
  | n + 1, .mk ps ks => [.lf (.bool ks.isEmpty), .row 2 RngX.ds ps, .row 3 (subE n) ks]
theorem subE_len (n : Nat) (x : Tw) : (subE n x).length = 3 := by cases n <;> cases x <;> rfl
theorem ev_sValOk : ∀ x, evFnX tab [] (cS1 valOkB) Try.f143 (body Try.f143) x := by
  intro s
  conv => whnf
  refine ⟨⟨rfl, ?_⟩⟩
  show _ = [[D.lf (.bool (valOkB s))]]
  unfold valOkB
  congr 4
  exact decide_eq_decide.2 (by omega)
theorem sValOk_ok : FnOk Try.prog 143 (cS1 valOkB) := fnOk_of fun x => fnX_at tab_ok (SOk.nil) mixed (fn := Try.f143) (code := body Try.f143) ⟨Try.func143, rfl, by kernel_rfl, by kernel_rfl, by kernel_rfl, by kernel_rfl⟩ (ev_sValOk x)
theorem ev_sPairsOk : ∀ x, evFnX tab [(142, cKeyOk), (143, (cS1 valOkB))] cPairsOk Try.f60 (body Try.f60) x := by
  intro (l : List RngX)
  conv => whnf
  intro hl
  replace hl : l.length ≤ 9223372036854775807 := hl
  conv => whnf
  refine br2 (fun h1 => ?_) (fun h1 => ?_)
  · have h1' : 200 < l.length := by
      replace h1 : decide ((l.length : Int) > 200) = true := h1
      have := of_decide_eq_true h1; omega
    conv => whnf
    exact ⟨⟨rfl, false, rfl, fun h => (by cases h), fun h => absurd h.len (by omega)⟩⟩
  have h1' : l.length ≤ 200 := by
    replace h1 : decide ((l.length : Int) > 200) = false := h1
    have := of_decide_eq_false h1; omega
  have fin : ∀ {b : Bool}, (b = true ↔ (∀ p ∈ l, kvOkB p = true) ∧ Srt l) → (b = true ↔ PairsOkP l) := fun h =>
    h.trans ⟨fun h => ⟨h1', h.1, h.2⟩, fun h => ⟨h.ok, h.srt⟩⟩
  conv => whnf
  intro _
  conv => whnf
  let S0 : Nat → Sl := fun i => [(10, .lf (.int .i64 i)), (9, .lf (.int .i64 l.length)), (8, .sl 0 none), (0, .sl 0 none)]
  let H0 : Hp := [(0, some (.row .lent 2 RngX.ds l))]
  refine ⟨fun m s h => ∃ i : Nat, i ≤ l.length ∧ RiseTo l i ∧ m = l.length - i ∧ s = S0 i ∧ h = H0, l.length, [(0, 0)], S0 0, H0, ⟨rfl, ⟨rfl, rfl, rfl, rfl, trivial⟩, rfl, trivial⟩, ⟨0, by omega, fun j y h => by omega, by omega, rfl, rfl⟩, ?_⟩
  rintro m _ _ ⟨i, g1, g2, rfl, rfl, rfl⟩
  conv => whnf
  refine br2 (fun h5 => ?_) (fun h5 => ?_)
  · have hi : i < l.length := by have := of_decide_eq_true h5; omega
    obtain ⟨y, hy⟩ := getL hi
    have no : ¬ (kvOkB y = true ∧ ∀ z, 0 < i → l[i - 1]? = some z → strLt z.lo y.lo = true) → (false = true ↔ (∀ p ∈ l, kvOkB p = true) ∧ Srt l) := fun h =>
      ⟨fun e => (by cases e), fun e => absurd (riseTo_all.2 e i y hi hy) h⟩
    have yes : (kvOkB y = true ∧ ∀ z, 0 < i → l[i - 1]? = some z → strLt z.lo y.lo = true) → RiseTo l (i + 1) := fun h j z hj hz => by
      rcases Nat.lt_or_ge j i with h1 | h1
      · exact g2 j z h1 hz
      · obtain rfl : j = i := by omega
        rw [hy] at hz; cases hz; exact h
    have kv : kvOkB y = (keyOkB y.lo && valOkB y.hi) := rfl
    have hw1 : 0 < i → IntKind.i64.wrap ((i : Int) - 1) = ((i - 1 : Nat) : Int) := fun h => by rw [w64 (by omega) (by omega)]; omega
    have back : ∀ {s' : Sl} {h' : Hp}, RiseTo l (i + 1) → Le [(0, 0)] (S0 (i + 1)) H0 s' h' → ∃ m' ρ s'' h'', m' < l.length - i ∧ Le ρ s'' h'' s' h' ∧ ∃ i, i ≤ l.length ∧ RiseTo l i ∧ m' = l.length - i ∧ s'' = S0 i ∧ h'' = H0 := fun h hle =>
      ⟨l.length - (i + 1), [(0, 0)], S0 (i + 1), H0, by omega, hle, i + 1, by omega, h, rfl, rfl, rfl⟩
    conv => whnf
    refine ⟨Int.natCast_nonneg _, ltI hy, ?_⟩
    conv => whnf
    refine ex2 _ (nthI hy) ?_
    conv => whnf
    refine ⟨y.lo, rfl, ?_⟩
    rintro _ _ ⟨rfl, rfl⟩
    conv => whnf
    repeat ((first | refine rc_i rfl ?_ | refine rc_i (fun _ => rfl) ?_); conv => whnf)
    refine br2 (fun h6 => ?_) (fun h6 => ?_)
    · have h6' : keyOkB y.lo = false := by
        replace h6 : (!keyOkB y.lo) = true := h6
        simpa using h6
      conv => whnf
      repeat ((first | refine rc_i rfl ?_ | refine rc_i (fun _ => rfl) ?_); conv => whnf)
      exact ⟨⟨rfl, false, rfl, fin (no fun h => by rw [kv, h6'] at h; cases h.1)⟩⟩
    have h6' : keyOkB y.lo = true := by
      replace h6 : (!keyOkB y.lo) = false := h6
      simpa using h6
    conv => whnf
    refine ⟨y.hi, rfl, ?_⟩
    rintro _ _ ⟨rfl, rfl⟩
    conv => whnf
    repeat ((first | refine rc_i rfl ?_ | refine rc_i (fun _ => rfl) ?_); conv => whnf)
    refine br2 (fun h7 => ?_) (fun h7 => ?_)
    · have h7' : valOkB y.hi = false := by
        replace h7 : (!valOkB y.hi) = true := h7
        simpa using h7
      conv => whnf
      repeat ((first | refine rc_i rfl ?_ | refine rc_i (fun _ => rfl) ?_); conv => whnf)
      exact ⟨⟨rfl, false, rfl, fin (no fun h => by rw [kv, h6', h7'] at h; cases h.1)⟩⟩
    have h7' : kvOkB y = true := by
      replace h7 : (!valOkB y.hi) = false := h7
      rw [kv, h6']; simpa using h7
    conv => whnf
    repeat ((first | refine rc_i rfl ?_ | refine rc_i (fun _ => rfl) ?_); conv => whnf)
    refine br2 (fun h8 => ?_) (fun h8 => ?_)
    · have h8' : 0 < i := by have := of_decide_eq_true h8; omega
      obtain ⟨z, hz⟩ := getL (l := l) (j := i - 1) (by omega)
      conv => whnf
      refine ⟨(ixE (hw1 h8') hz).1, (ixE (hw1 h8') hz).2, ?_⟩
      conv => whnf
      refine ex2 _ (nthE (hw1 h8') hz) ?_
      conv => whnf
      repeat (refine rc_i (by (conv => whnf); first | rfl | exact ⟨(ixE (hw1 h8') hz).1, (ixE (hw1 h8') hz).2, rfl⟩ | exact ex2 _ (nthE (hw1 h8') hz) rfl) ?_; conv => whnf)
      refine br2 (fun h9 => ?_) (fun h9 => ?_)
      · have h9' : strLt z.lo y.lo = false := by
          replace h9 : (!strLt z.lo y.lo) = true := h9
          simpa using h9
        conv => whnf
        exact ⟨⟨rfl, false, rfl, fin (no fun h => by rw [h.2 z h8' hz] at h9'; cases h9')⟩⟩
      · have h9' : strLt z.lo y.lo = true := by
          replace h9 : (!strLt z.lo y.lo) = false := h9
          simpa using h9
        conv => whnf
        exact back (yes ⟨h7', fun z' _ hz' => by rw [hz] at hz'; cases hz'; exact h9'⟩) ⟨rfl, ⟨incI hi hl, rfl, rfl, rfl, trivial⟩, rfl, trivial⟩
    · have h8' : ¬ 0 < i := by have := of_decide_eq_false h8; omega
      conv => whnf
      exact back (yes ⟨h7', fun z' h0 _ => absurd h0 h8'⟩) ⟨rfl, ⟨incI hi hl, rfl, rfl, rfl, trivial⟩, rfl, trivial⟩
  · have hi : i = l.length := by have := of_decide_eq_false h5; omega
    subst hi
    conv => whnf
    exact ⟨⟨rfl, true, rfl, fin ⟨fun _ => riseTo_all.1 g2, fun _ => rfl⟩⟩⟩
theorem sPairsOk_ok : FnOk Try.prog 60 cPairsOk := fnOk_of fun x => fnX_at tab_ok (SOk.cons sKeyOk_ok (SOk.cons sValOk_ok SOk.nil)) mixed (fn := Try.f60) (code := body Try.f60) ⟨Try.func60, rfl, by kernel_rfl, by kernel_rfl, by kernel_rfl, by kernel_rfl⟩ (ev_sPairsOk x)
theorem ev_sLeast : ∀ n x, (fun t => t.d) x = n → evFnX tab [(189, (pureC TwX [(.rd, true)] [false] (fun t => [subE t.n t.x]) (fun t => [[.lf (.string t.x.least)]])).below (fun t => t.d) n)] (pureC TwX [(.rd, true)] [false] (fun t => [subE t.n t.x]) (fun t => [[.lf (.string t.x.least)]])) Try.f189 (body Try.f189) x := by
  rintro N ⟨n, ⟨ps, ks⟩, b, d, h, hn⟩ rfl
  have hpos := h.pos
  obtain ⟨n, rfl⟩ : ∃ m, n = m + 1 := ⟨n - 1, by omega⟩
  cases h with
  | leaf h1 h2 =>
    obtain ⟨y, hy⟩ : ∃ y, ps[0]? = some y := getL (by cases b <;> simp at h1 <;> omega)
    conv => whnf
    intro _
    conv => whnf
    refine br2 (fun h3 => ?_) (fun h3 => ?_)
    · conv => whnf
      refine ⟨by decide, ltI hy, ?_⟩
      conv => whnf
      refine ex2 _ (nthI hy) ?_
      conv => whnf
      refine ⟨⟨rfl, ?_⟩⟩
      show [[D.lf (.string y.lo)]] = [[D.lf (.string (headKey ps))]]
      cases ps with
      | nil => simp at hy
      | cons c cs => cases hy; rfl
    · exfalso
      have h3' := of_decide_eq_false h3
      have := (List.getElem?_eq_some_iff.1 hy).1
      omega
  | node h1 h2 h3 =>
    obtain ⟨k, ks, rfl⟩ : ∃ k r, ks = k :: r := by cases ks with | nil => simp at h1 | cons k r => exact ⟨k, r, rfl⟩
    rename_i d
    have hks := h3 k (by simp)
    have hp := hks.pos
    obtain ⟨n, rfl⟩ : ∃ m, n = m + 1 := ⟨n - 1, by omega⟩
    obtain ⟨us, is⟩ := k
    conv => whnf
    intro _
    conv => whnf
    refine br2 (fun h4 => ?_) (fun h4 => ?_)
    · conv => whnf
      refine ⟨by decide, (show (0 : Int) < (((Tw.mk us is :: ks).length : Nat) : Int) by simp), ?_⟩
      conv => whnf
      refine ⟨⟨⟨n + 1, .mk us is, false, d, hks, by omega⟩, Nat.lt_succ_self _⟩, rfl, ?_⟩
      rintro _ _ ⟨rfl, rfl⟩
      conv => whnf
      exact ⟨⟨rfl, rfl⟩⟩
    · exfalso
      have h4' := of_decide_eq_false h4
      replace h4' : ¬ (((Tw.mk us is :: ks).length : Nat) : Int) > 0 := h4'
      simp at h4'
theorem sLeast_ok : FnOk Try.prog 189 (pureC TwX [(.rd, true)] [false] (fun t => [subE t.n t.x]) (fun t => [[.lf (.string t.x.least)]])) := fn_rec (fun t => t.d) fun n hs x hx => fnX_at tab_ok (SOk.cons hs (SOk.nil)) mixed (fn := Try.f189) (code := body Try.f189) ⟨Try.func189, rfl, by kernel_rfl, by kernel_rfl, by kernel_rfl, by kernel_rfl⟩ (ev_sLeast n x hx)
end Go.Vm
namespace Go.Vm
open Go.Proofs
set_option maxRecDepth 100000
set_option linter.unusedVariables false
set_option linter.unusedSimpArgs false

structure LayX where
  t : TwX
  N : List NodeX
  hl : N.length + t.x.size ≤ 4194304
def cSLay : Con := pureC LayX [(.take, false), (.rd, true)] [false] (fun a => [[.row 3 NodeX.ds a.N], subE a.t.n a.t.x]) (fun a => [[.row 3 NodeX.ds (a.N ++ a.t.x.lay a.N.length)]])
theorem Tw.lays_take {ks : List Tw} {i a : Nat} {k : Tw} (h : ks[i]? = some k) : Tw.lays (ks.take (i + 1)) a = Tw.lays (ks.take i) a ++ k.lay (a + Tw.sizes (ks.take i)) := by
  rw [List.take_add_one, h, Tw.lays_app]; simp [Tw.lays]
theorem kidsAt_take {ks : List Tw} {i a : Nat} {k : Tw} (h : ks[i]? = some k) : kidsAt (ks.take (i + 1)) a = kidsAt (ks.take i) a ++ [((a + Tw.sizes (ks.take i) : Nat) : Int)] := by
  rw [List.take_add_one, h, kidsAt_app]; rfl
theorem Tw.sizes_take {ks : List Tw} {i : Nat} {k : Tw} (h : ks[i]? = some k) : Tw.sizes (ks.take (i + 1)) = Tw.sizes (ks.take i) + k.size ∧ Tw.sizes (ks.take i) + k.size ≤ Tw.sizes ks := by
  constructor
  · rw [List.take_add_one, h, Tw.sizes_app]; simp [Tw.sizes]
  · conv => rhs; rw [at_split h]
    rw [Tw.sizes_app]; simp [Tw.sizes]
theorem leasts_take {ks : List Tw} {i : Nat} {k : Tw} (h : ks[i]? = some k) (hi : 0 < i) : ((ks.take (i + 1)).drop 1).map Tw.least = ((ks.take i).drop 1).map Tw.least ++ [k.least] := by
  rw [List.take_add_one, h, List.drop_append_of_le_length (by rw [List.length_take]; have := (List.getElem?_eq_some_iff.1 h).1; omega), List.map_append]; rfl
theorem leasts_take0 {ks : List Tw} : ((ks.take (0 + 1)).drop 1).map Tw.least = [] := by cases ks <;> simp
theorem ev_sLay : ∀ n x, (fun a => a.t.d) x = n → evFnX tab [(137, cSLay.below (fun a => a.t.d) n), (1000007, cGh), (189, (pureC TwX [(.rd, true)] [false] (fun t => [subE t.n t.x]) (fun t => [[.lf (.string t.x.least)]])))] cSLay Try.f137 (body Try.f137) x := by
  rintro M ⟨⟨n, x, b, d, h, hn⟩, N, hl⟩ rfl
  have hpos := h.pos
  obtain ⟨n, rfl⟩ : ∃ m, n = m + 1 := ⟨n - 1, by omega⟩
  obtain ⟨ps, ks⟩ := x
  replace hl : N.length + (1 + Tw.sizes ks) ≤ 4194304 := hl
  replace hn : d ≤ n + 1 := hn
  have hps : ps.length ≤ 4 := by cases h <;> simp_all
  have hk4 : ks.length ≤ 4 := by cases h <;> simp_all
  have hkid : ∀ k ∈ ks, ∃ d', d' < d ∧ Shp false d' k := by
    intro k hk
    cases h with
    | leaf => simp at hk
    | node k1 k2 k3 => exact ⟨_, Nat.lt_succ_self _, k3 k hk⟩
  conv => whnf
  intro _
  conv => whnf
  refine ⟨2, RngX, RngX.ds, fun _ => rfl, ?_⟩
  conv => whnf
  refine ⟨1, ByteArray, strE1, fun _ => rfl, ?_⟩
  conv => whnf
  refine ⟨1, Int, intE1, fun _ => rfl, ?_⟩
  conv => whnf
  refine ⟨[⟨[], [], []⟩], rfl, ?_, ?_⟩
  · show N.length + 1 ≤ 4294967296; omega
  conv => whnf
  refine br2 (fun h3 => ?_) (fun h3 => ?_)
  · obtain rfl : ks = [] := by cases ks with | nil => rfl | cons k r => cases h3
    conv => whnf
    refine ⟨true, ?_⟩
    conv => whnf
    refine ⟨RngX, RngX.ds, [], fun _ => rfl, rfl, ?_⟩
    conv => whnf
    refine ⟨fun _ => rfl, ps, rfl, ?_, ?_⟩
    · show 0 + ps.length ≤ 4294967296; omega
    conv => whnf
    have hy : (N ++ [(⟨[], [], []⟩ : NodeX)])[N.length]? = some ⟨[], [], []⟩ := by simp
    refine ⟨Int.natCast_nonneg _, ltI hy, ?_⟩
    conv => whnf
    refine ex2 _ (nthI hy) ?_
    conv => whnf
    refine ⟨⟨ps, [], []⟩, rfl, ?_⟩
    conv => whnf
    refine ⟨⟨rfl, ?_⟩⟩
    show [[D.row 3 NodeX.ds ((N ++ [(⟨[], [], []⟩ : NodeX)]).set N.length ⟨ps, [], []⟩)]] = [[D.row 3 NodeX.ds (N ++ (Tw.mk ps []).lay N.length)]]
    simp [Tw.lay, Tw.lays, kidsAt]
  cases h with
  | leaf => exact absurd h3 (by simp)
  | node k1 k2 k3 =>
  rename_i d
  conv => whnf
  refine ⟨[.nlc 96 0 1 1000, .nlc 96 0 2 1001], ?_⟩
  conv => whnf
  refine ⟨1, ByteArray, strE1, fun _ => rfl, ?_⟩
  conv => whnf
  refine ⟨1, Int, intE1, fun _ => rfl, ?_⟩
  conv => whnf
  intro _
  conv => whnf
  let S0 : Nat → Sl := fun i => [(29, .lf (.int .i64 i)), (28, .lf (.int .i64 ks.length)), (27, .sl 17 none), (6, .pt 96 0 0), (3, .pt 48 0 0), (5, .lf (.int .i64 N.length)), (0, .sl 208 none)]
  let L : Nat → List NodeX := fun i => N ++ [⟨[], [], []⟩] ++ Tw.lays (ks.take i) (N.length + 1)
  let H0 : Nat → Hp := fun i => [(208, some (.row .own 3 NodeX.ds (L i))), (96, some (.arr true 3 [[.lf (.slice none 0 0), .sl 16000 none, .sl 16016 none]])),
    (16000, some (.row .own 1 strE1 (((ks.take i).drop 1).map Tw.least))), (16016, some (.row .own 1 intE1 (kidsAt (ks.take i) (N.length + 1)))),
    (48, some (.arr true 3 [[.lf (.bool ks.isEmpty), .sl 16 none, .sl 17 none]])), (16, some (.row .lent 2 RngX.ds [])), (17, some (.row .lent 3 (subE n) ks))]
  have hL : ∀ i, (L i).length = N.length + 1 + Tw.sizes (ks.take i) := fun i => by simp [L, Tw.lays_len]; omega
  refine ⟨fun m s h => ∃ i : Nat, i ≤ ks.length ∧ m = ks.length - i ∧ s = S0 i ∧ h = H0 i, ks.length, [(208, 208), (96, 96), (16000, 16000), (16016, 16016), (48, 48), (16, 16), (17, 17)], S0 0, H0 0,
    ⟨rfl, ⟨rfl, rfl, rfl, rfl, rfl, rfl, rfl, trivial⟩, ?_, rfl, rfl, rfl, rfl, rfl, rfl, trivial⟩, ⟨0, by omega, rfl, rfl, rfl⟩, ?_⟩
  · show _ = some (Ob.row Kind.own 3 NodeX.ds (L 0))
    simp [L, Tw.lays]; rfl
  rintro m _ _ ⟨i, g1, rfl, rfl, rfl⟩
  conv => whnf
  refine br2 (fun h5 => ?_) (fun h5 => ?_)
  · have hi : i < ks.length := by have := of_decide_eq_true h5; omega
    obtain ⟨k, hk⟩ := getL hi
    obtain ⟨d', hd, hks⟩ := hkid k (List.mem_of_getElem? hk)
    have hp := hks.pos
    obtain ⟨z1, z2⟩ := Tw.sizes_take hk
    have hL1 : L (i + 1) = L i ++ k.lay (L i).length := by
      rw [hL]; simp only [L, Tw.lays_take hk, List.append_assoc]
    have hK1 : kidsAt (ks.take (i + 1)) (N.length + 1) = kidsAt (ks.take i) (N.length + 1) ++ [((L i).length : Int)] := by rw [kidsAt_take hk, hL]
    have hlen := hL i
    obtain ⟨us, is⟩ := k
    obtain ⟨n', rfl⟩ : ∃ q, n = q + 1 := ⟨n - 1, by omega⟩
    conv => whnf
    intro _
    conv => whnf
    refine ⟨[((L i).length : Int)], rfl, ?_, ?_⟩
    · show (kidsAt (ks.take i) (N.length + 1)).length + 1 ≤ 4294967296
      rw [kidsAt_len, List.length_take]; omega
    conv => whnf
    have step : ∀ {s' : Sl} {h' : Hp} (ρ : List (Nat × Nat)), Le ρ (S0 (i + 1)) (H0 (i + 1)) s' h' → ∃ m' ρ s'' h'', m' < ks.length - i ∧ Le ρ s'' h'' s' h' ∧ ∃ i, i ≤ ks.length ∧ m' = ks.length - i ∧ s'' = S0 i ∧ h'' = H0 i := fun ρ hle =>
      ⟨ks.length - (i + 1), ρ, _, _, by omega, hle, i + 1, by omega, rfl, rfl, rfl⟩
    have hw := incI hi (show ks.length ≤ 9223372036854775807 by omega)
    refine br2 (fun h6 => ?_) (fun h6 => ?_)
    · have h6' : 0 < i := by have := of_decide_eq_true h6; omega
      conv => whnf
      refine ⟨Int.natCast_nonneg _, ltI hk, ?_⟩
      conv => whnf
      refine ex2 _ (nthI hk) ?_
      conv => whnf
      refine ⟨⟨n' + 1, .mk us is, false, d', hks, by omega⟩, rfl, ?_⟩
      rintro _ _ ⟨rfl, rfl⟩
      conv => whnf
      repeat ((first | refine rc_i rfl ?_ | refine rc_i (fun _ => rfl) ?_); conv => whnf)
      refine ⟨[(Tw.mk us is).least], rfl, ?_, ?_⟩
      · show (((ks.take i).drop 1).map Tw.least).length + 1 ≤ 4294967296
        simp; omega
      conv => whnf
      refine ⟨Int.natCast_nonneg _, ltI hk, ?_⟩
      conv => whnf
      refine ex2 _ (nthI hk) ?_
      conv => whnf
      refine ⟨⟨⟨⟨n' + 1, .mk us is, false, d', hks, by omega⟩, L i, (show (L i).length + (Tw.mk us is).size ≤ 4194304 by omega)⟩, hd⟩, rfl, ?_⟩
      rintro _ _ ⟨rfl, rfl⟩
      conv => whnf
      refine step [(928, 208), (96, 96), (800, 16000), (592, 16016), (48, 48), (16, 16), (17, 17)] ⟨rfl, ⟨hw, rfl, rfl, rfl, rfl, rfl, rfl, trivial⟩, ?_, rfl, ?_, ?_, rfl, rfl, rfl, trivial⟩
      · show _ = some (Ob.row Kind.own 3 NodeX.ds (L (i + 1)))
        rw [hL1]; rfl
      · show _ = some (Ob.row Kind.own 1 strE1 (((ks.take (i + 1)).drop 1).map Tw.least))
        rw [leasts_take hk h6']; rfl
      · show _ = some (Ob.row Kind.own 1 intE1 (kidsAt (ks.take (i + 1)) (N.length + 1)))
        rw [hK1]; rfl
    · have h6' : i = 0 := by have := of_decide_eq_false h6; omega
      subst h6'
      conv => whnf
      refine ⟨Int.natCast_nonneg _, ltI hk, ?_⟩
      conv => whnf
      refine ex2 _ (nthI hk) ?_
      conv => whnf
      refine ⟨⟨⟨⟨n' + 1, .mk us is, false, d', hks, by omega⟩, L 0, (show (L 0).length + (Tw.mk us is).size ≤ 4194304 by omega)⟩, hd⟩, rfl, ?_⟩
      rintro _ _ ⟨rfl, rfl⟩
      conv => whnf
      refine step [(928, 208), (96, 96), (16000, 16000), (592, 16016), (48, 48), (16, 16), (17, 17)] ⟨rfl, ⟨hw, rfl, rfl, rfl, rfl, rfl, rfl, trivial⟩, ?_, rfl, ?_, ?_, rfl, rfl, rfl, trivial⟩
      · show _ = some (Ob.row Kind.own 3 NodeX.ds (L (0 + 1)))
        rw [hL1]; rfl
      · show _ = some (Ob.row Kind.own 1 strE1 (((ks.take (0 + 1)).drop 1).map Tw.least))
        rw [leasts_take0]; rfl
      · show _ = some (Ob.row Kind.own 1 intE1 (kidsAt (ks.take (0 + 1)) (N.length + 1)))
        rw [hK1]; rfl
  · have hi : i = ks.length := by have := of_decide_eq_false h5; omega
    subst hi
    have hy : (L ks.length)[N.length]? = some ⟨[], [], []⟩ := by simp [L]
    conv => whnf
    refine ⟨Int.natCast_nonneg _, ltI hy, ?_⟩
    conv => whnf
    refine ex2 _ (nthI hy) ?_
    conv => whnf
    refine ⟨2, RngX, RngX.ds, fun _ => rfl, ?_⟩
    conv => whnf
    refine ⟨⟨[], (ks.drop 1).map Tw.least, kidsAt ks (N.length + 1)⟩, ?_, ?_⟩
    · show [D.row 2 RngX.ds [], .row 1 strE1 ((ks.drop 1).map Tw.least), .row 1 intE1 (kidsAt ks (N.length + 1))] = [D.row 2 RngX.ds [], .row 1 strE1 (((ks.take ks.length).drop 1).map Tw.least), .row 1 intE1 (kidsAt (ks.take ks.length) (N.length + 1))]
      rw [List.take_length]
    conv => whnf
    refine ⟨⟨rfl, ?_⟩⟩
    show [[D.row 3 NodeX.ds ((L ks.length).set N.length ⟨[], (ks.drop 1).map Tw.least, kidsAt ks (N.length + 1)⟩)]] = [[D.row 3 NodeX.ds (N ++ (Tw.mk [] ks).lay N.length)]]
    simp [L, Tw.lay]
theorem sLay_ok : FnOk Try.prog 137 cSLay := fn_rec (fun a => a.t.d) fun n hs x hx => fnX_at tab_ok (SOk.cons hs (SOk.cons gh_ok (SOk.cons sLeast_ok SOk.nil))) mixed (fn := Try.f137) (code := body Try.f137) ⟨Try.func137, rfl, by kernel_rfl, by kernel_rfl, by kernel_rfl, by kernel_rfl⟩ (ev_sLay n x hx)
theorem deeps_mem {k : Tw} : ∀ {ks : List Tw}, k ∈ ks → k.deep ≤ Tw.deeps ks
  | j :: ks, h => by
    simp only [Tw.deeps]
    rcases List.mem_cons.1 h with rfl | h
    · omega
    · have := deeps_mem h; omega
def PrsOk (x : Tw) : Prop := (∃ ps, x = .mk ps [] ∧ ps.length ≤ 4) ∨ ∃ ks, x = .mk [] ks ∧ ks.length ≤ 4 ∧ ∀ k ∈ ks, ∃ b d, Shp b d k
theorem Shp.prs {b : Bool} {d : Nat} {x : Tw} (h : Shp b d x) : PrsOk x := by
  cases h with
  | leaf h1 h2 => exact .inl ⟨_, rfl, h2⟩
  | node h1 h2 h3 => exact .inr ⟨_, rfl, h2, fun k hk => ⟨_, _, h3 k hk⟩⟩
theorem prs_of {x : Tw} (h : x = .mk [] [] ∨ ∃ b d, Shp b d x) : PrsOk x := by
  rcases h with rfl | ⟨b, d, h⟩
  · exact .inl ⟨[], rfl, by simp⟩
  · exact h.prs
structure PrsS where
  n : Nat
  x : Tw
  h : PrsOk x
  hn : x.deep ≤ n
  hl : x.all.length ≤ 4294967296
theorem ev_sPairs : ∀ n x, (fun a => a.x.deep) x = n → evFnX tab [(132, (pureC PrsS [(.rd, true)] [false] (fun p => [subE p.n p.x]) (fun p => [[.row 2 RngX.ds p.x.all]])).below (fun a => a.x.deep) n)] (pureC PrsS [(.rd, true)] [false] (fun p => [subE p.n p.x]) (fun p => [[.row 2 RngX.ds p.x.all]])) Try.f132 (body Try.f132) x := by
  rintro N ⟨n, x, h, hn, hl⟩ rfl
  have hpos := x.deep_pos
  obtain ⟨n, rfl⟩ : ∃ m, n = m + 1 := ⟨n - 1, by omega⟩
  obtain ⟨ps, ks⟩ := x
  replace hl : (Tw.alls ks ++ ps).length ≤ 4294967296 := hl
  rw [List.length_append] at hl
  replace hn : 1 + Tw.deeps ks ≤ n + 1 := hn
  have hk4 : ks.length ≤ 4 := by
    rcases h with ⟨_, h, _⟩ | ⟨_, h, h4, _⟩
    · cases h; simp
    · cases h; exact h4
  have hps : ps.length ≤ 4 := by
    rcases h with ⟨_, h, h4⟩ | ⟨_, h, _⟩
    · cases h; exact h4
    · cases h; simp
  have hkid : ∀ k ∈ ks, ∃ b d', Shp b d' k := by
    intro k hk
    rcases h with ⟨_, h, _⟩ | ⟨_, h, _, h3⟩
    · cases h; simp at hk
    · cases h; exact h3 k hk
  have hord : Tw.alls ks ++ ps = ps ++ Tw.alls ks := by
    rcases h with ⟨_, h, _⟩ | ⟨_, h, _⟩
    · cases h; simp [Tw.alls]
    · cases h; simp
  conv => whnf
  refine ⟨true, ?_⟩
  conv => whnf
  refine ⟨RngX, RngX.ds, [], fun _ => rfl, rfl, ?_⟩
  conv => whnf
  refine ⟨fun _ => rfl, ps, rfl, ?_, ?_⟩
  · show 0 + ps.length ≤ 4294967296; omega
  conv => whnf
  intro _
  conv => whnf
  let S0 : Nat → Sl := fun i => [(12, .lf (.int .i64 i)), (11, .lf (.int .i64 ks.length)), (1, .pt 16 0 0), (3, .sl 128 none)]
  let H0 : Nat → Hp := fun i => [(128, some (.row .own 2 RngX.ds (ps ++ Tw.alls (ks.take i)))), (16, some (.arr true 3 [[.lf (.bool ks.isEmpty), .sl 0 none, .sl 1 none]])), (0, some (.row .lent 2 RngX.ds ps)), (1, some (.row .lent 3 (subE n) ks))]
  refine ⟨fun m s h => ∃ i : Nat, i ≤ ks.length ∧ m = ks.length - i ∧ s = S0 i ∧ h = H0 i, ks.length, [(128, 128), (16, 16), (0, 0), (1, 1)], S0 0, H0 0,
    ⟨rfl, ⟨rfl, rfl, rfl, rfl, trivial⟩, ?_, rfl, rfl, rfl, trivial⟩, ⟨0, by omega, rfl, rfl, rfl⟩, ?_⟩
  · show _ = some (Ob.row Kind.own 2 RngX.ds (ps ++ Tw.alls (ks.take 0)))
    simp [Tw.alls]; rfl
  rintro m _ _ ⟨i, g1, rfl, rfl, rfl⟩
  conv => whnf
  refine br2 (fun h5 => ?_) (fun h5 => ?_)
  · have hi : i < ks.length := by have := of_decide_eq_true h5; omega
    obtain ⟨k, hk⟩ := getL hi
    obtain ⟨b', d', hks⟩ := hkid k (List.mem_of_getElem? hk)
    have hkd := deeps_mem (List.mem_of_getElem? hk)
    obtain ⟨us, is⟩ := k
    have hp := (Tw.mk us is).deep_pos
    obtain ⟨n', rfl⟩ : ∃ q, n = q + 1 := ⟨n - 1, by omega⟩
    have hal := Tw.alls_le hk
    conv => whnf
    refine ⟨Int.natCast_nonneg _, ltI hk, ?_⟩
    conv => whnf
    refine ex2 _ (nthI hk) ?_
    conv => whnf
    refine ⟨⟨⟨n' + 1, .mk us is, hks.prs, by omega, by show (Tw.mk us is).all.length ≤ 4294967296; omega⟩, (show (Tw.mk us is).deep < 1 + Tw.deeps ks by omega)⟩, rfl, ?_⟩
    rintro _ _ ⟨rfl, rfl⟩
    conv => whnf
    refine ⟨fun _ => rfl, (Tw.mk us is).all, rfl, ?_, ?_⟩
    · show (ps ++ Tw.alls (ks.take i)).length + (Tw.mk us is).all.length ≤ 4294967296
      rw [List.length_append]; omega
    conv => whnf
    refine ⟨ks.length - (i + 1), [(352, 128), (16, 16), (0, 0), (1, 1)], S0 (i + 1), H0 (i + 1), by omega, ⟨rfl, ⟨incI hi (by omega), rfl, rfl, rfl, trivial⟩, ?_, rfl, rfl, rfl, trivial⟩, i + 1, by omega, rfl, rfl, rfl⟩
    show _ = some (Ob.row Kind.own 2 RngX.ds (ps ++ Tw.alls (ks.take (i + 1))))
    rw [Tw.alls_take hk, ← List.append_assoc]; rfl
  · have hi : i = ks.length := by have := of_decide_eq_false h5; omega
    subst hi
    conv => whnf
    refine ⟨⟨rfl, ?_⟩⟩
    show [[D.row 2 RngX.ds (ps ++ Tw.alls (ks.take ks.length))]] = [[D.row 2 RngX.ds (Tw.alls ks ++ ps)]]
    rw [List.take_length, hord]
theorem sPairs_ok : FnOk Try.prog 132 (pureC PrsS [(.rd, true)] [false] (fun p => [subE p.n p.x]) (fun p => [[.row 2 RngX.ds p.x.all]])) := fn_rec (fun a => a.x.deep) fun n hs x hx => fnX_at tab_ok (SOk.cons hs (SOk.nil)) mixed (fn := Try.f132) (code := body Try.f132) ⟨Try.func132, rfl, by kernel_rfl, by kernel_rfl, by kernel_rfl, by kernel_rfl⟩ (ev_sPairs n x hx)
end Go.Vm
namespace Go.Vm
open Go.Proofs
set_option maxRecDepth 100000
set_option linter.unusedVariables false
set_option linter.unusedSimpArgs false

theorem Lev.deep : ∀ {d : Nat} {x : Tw}, Lev d x → x.deep = d := by
  intro d x h
  induction h with
  | leaf => simp [Tw.deep, Tw.deeps]
  | node h1 h3 ih =>
    rename_i d ps ks
    have key : ∀ l : List Tw, l ≠ [] → (∀ k ∈ l, k.deep = d) → Tw.deeps l = d := by
      intro l
      induction l with
      | nil => intro h; exact absurd rfl h
      | cons k l ihl =>
        intro _ hk
        have h4 := hk k (by simp)
        simp only [Tw.deeps]
        cases l with
        | nil => simp [Tw.deeps, h4]
        | cons q r =>
          have := ihl (by simp) (fun z hz => hk z (by simp [hz]))
          rw [this, h4]; simp
    simp only [Tw.deep]
    rw [key ks h1 ih]; omega
structure SubX where
  n : Nat
  x : Tw
  hd : x.deep ≤ n
  hn : n ≤ 1000
def cSDeep : Con := relC SubX [(.rd, true)] [false] (fun t => [subE t.n t.x]) (fun t r => ∃ v : Int, r = [[.lf (.int .i64 v)]] ∧ v ≤ t.x.deep ∧ (0 ≤ v → Lev t.x.deep t.x ∧ v = t.x.deep) ∧ (v < 0 → ∀ d, ¬ Lev d t.x))
theorem mk_deep {ps : List RngX} {ks : List Tw} : (Tw.mk ps ks).deep = 1 + Tw.deeps ks := rfl
theorem ev_sDeep : ∀ n x, (fun t => t.x.deep) x = n → evFnX tab [(136, cSDeep.below (fun t => t.x.deep) n)] cSDeep Try.f136 (body Try.f136) x := by
  rintro M ⟨n, ⟨ps, ks⟩, hd, hn⟩ rfl
  replace hd : 1 + Tw.deeps ks ≤ n := hd
  obtain ⟨n, rfl⟩ : ∃ m, n = m + 1 := ⟨n - 1, by omega⟩
  conv => whnf
  refine br2 (fun h1 => ?_) (fun h1 => ?_)
  · obtain rfl : ks = [] := by cases ks with | nil => rfl | cons k r => cases h1
    conv => whnf
    exact ⟨⟨rfl, 1, rfl, by show (1 : Int) ≤ ((1 + 0 : Nat) : Int); omega, fun _ => ⟨.leaf, rfl⟩, fun h => by omega⟩⟩
  have hne : ks ≠ [] := by rintro rfl; cases h1
  have hlen : 0 < ks.length := List.length_pos_iff.2 hne
  conv => whnf
  intro hkl
  replace hkl : ks.length ≤ 9223372036854775807 := hkl
  conv => whnf
  let S0 : Nat → Nat → Sl := fun i dd => [(11, .lf (.int .i64 i)), (10, .lf (.int .i64 ks.length)), (1, .pt 16 0 0), (3, .lf (.int .i64 dd))]
  let H0 : Hp := [(16, some (.arr true 3 [[.lf (.bool ks.isEmpty), .sl 0 none, .sl 1 none]])), (0, some (.row .lent 2 RngX.ds ps)), (1, some (.row .lent 3 (subE n) ks))]
  refine ⟨fun m s h => ∃ i dd : Nat, i ≤ ks.length ∧ dd ≤ 1000 ∧ (i = 0 → dd = 0) ∧ (0 < i → ∃ e, dd = e + 1 ∧ ∀ k ∈ ks.take i, Lev e k) ∧ m = ks.length - i ∧ s = S0 i dd ∧ h = H0, ks.length, [(16, 16), (0, 0), (1, 1)], S0 0 0, H0,
    ⟨rfl, ⟨rfl, rfl, rfl, rfl, trivial⟩, rfl, rfl, rfl, trivial⟩, ⟨0, 0, by omega, by omega, fun _ => rfl, fun h => absurd h (by omega), rfl, rfl, rfl⟩, ?_⟩
  rintro m _ _ ⟨i, dd, g1, g2, g3, g4, rfl, rfl, rfl⟩
  conv => whnf
  refine br2 (fun h5 => ?_) (fun h5 => ?_)
  · have hi : i < ks.length := by have := of_decide_eq_true h5; omega
    obtain ⟨k, hk⟩ := getL hi
    have hkm := List.mem_of_getElem? hk
    have hkd := deeps_mem hkm
    have hkp := k.deep_pos
    have no : (∀ e, Lev e k → 0 < i → ∀ q ∈ ks.take i, Lev e q → False) → (0 < i ∨ ∀ e, ¬ Lev e k) → ∀ d, ¬ Lev d (.mk ps ks) := by
      intro a b d hl
      cases hl with
      | leaf => exact hne rfl
      | node q1 q3 =>
        rcases b with b | b
        · obtain ⟨q, hq⟩ := getL (l := ks) (j := 0) hlen
          have : q ∈ ks.take i := by
            have : (ks.take i)[0]? = some q := by rw [List.getElem?_take, if_pos b]; exact hq
            exact List.mem_of_getElem? this
          exact a _ (q3 k hkm) b q this (q3 q (List.mem_of_getElem? hq))
        · exact b _ (q3 k hkm)
    obtain ⟨us, is⟩ := k
    replace hkd : (Tw.mk us is).deep ≤ n := by omega
    obtain ⟨n', rfl⟩ : ∃ q, n = q + 1 := ⟨n - 1, by omega⟩
    conv => whnf
    refine ⟨Int.natCast_nonneg _, ltI hk, ?_⟩
    conv => whnf
    refine ex2 _ (nthI hk) ?_
    conv => whnf
    refine ⟨⟨⟨n' + 1, .mk us is, hkd, by omega⟩, by show (Tw.mk us is).deep < 1 + Tw.deeps ks; have := deeps_mem hkm; omega⟩, rfl, ?_⟩
    rintro _ _ ⟨rfl, v, rfl, v1, v2, v3⟩
    replace v1 : v ≤ ((Tw.mk us is).deep : Int) := v1
    replace v2 : 0 ≤ v → Lev (Tw.mk us is).deep (Tw.mk us is) ∧ v = (Tw.mk us is).deep := v2
    replace v3 : v < 0 → ∀ d, ¬ Lev d (Tw.mk us is) := v3
    have bad : ∀ {d : Nat}, (∀ e, ¬ Lev e (Tw.mk ps ks)) → ∃ w : Int, [[D.lf (.int .i64 (-1))]] = [[D.lf (.int .i64 w)]] ∧ w ≤ ((Tw.mk ps ks).deep : Int) ∧ (0 ≤ w → Lev (Tw.mk ps ks).deep (Tw.mk ps ks) ∧ w = ((Tw.mk ps ks).deep : Int)) ∧ (w < 0 → ∀ d, ¬ Lev d (Tw.mk ps ks)) := fun h =>
      ⟨-1, rfl, by omega, fun h => by omega, fun _ => h⟩
    conv => whnf
    refine br2 (fun h6 => ?_) (fun h6 => ?_)
    · have h6' : v < 0 := of_decide_eq_true h6
      conv => whnf
      exact ⟨⟨rfl, bad (d := 0) (no (fun e h => absurd h (v3 h6' e)) (.inr (v3 h6')))⟩⟩
    have h6' : 0 ≤ v := by have h7 : ¬ v < 0 := of_decide_eq_false h6; omega
    obtain ⟨hlv, rfl⟩ := v2 h6'
    have hwd : IntKind.i64.wrap (((Tw.mk us is).deep : Int) + 1) = (((Tw.mk us is).deep + 1 : Nat) : Int) := by rw [w64 (by omega) (by omega)]; omega
    have step : ∀ {s' : Sl} {h' : Hp}, (∀ q ∈ ks.take i, Lev (Tw.mk us is).deep q) → Le [(16, 16), (0, 0), (1, 1)] (S0 (i + 1) ((Tw.mk us is).deep + 1)) H0 s' h' →
        ∃ m' ρ s'' h'', m' < ks.length - i ∧ Le ρ s'' h'' s' h' ∧ ∃ i dd : Nat, i ≤ ks.length ∧ dd ≤ 1000 ∧ (i = 0 → dd = 0) ∧ (0 < i → ∃ e, dd = e + 1 ∧ ∀ k ∈ ks.take i, Lev e k) ∧ m' = ks.length - i ∧ s'' = S0 i dd ∧ h'' = H0 := fun h hle =>
      ⟨ks.length - (i + 1), _, _, _, by omega, hle, i + 1, (Tw.mk us is).deep + 1, by omega, by omega, fun h => by omega, fun _ => ⟨_, rfl, fun q hq => by
        rw [List.take_add_one, hk] at hq
        rcases List.mem_append.1 hq with hq | hq
        · exact h q hq
        · simp at hq; subst hq; exact hlv⟩, rfl, rfl, rfl⟩
    have hw := incI hi hkl
    have hl1 : Le [(16, 16), (0, 0), (1, 1)] (S0 (i + 1) ((Tw.mk us is).deep + 1)) H0 (S0 (i + 1) ((Tw.mk us is).deep + 1)) H0 := ⟨rfl, ⟨rfl, rfl, rfl, rfl, trivial⟩, rfl, rfl, rfl, trivial⟩
    conv => whnf
    refine br2 (fun h7 => ?_) (fun h7 => ?_)
    · have h7' : 0 < i := by have := of_decide_eq_true h7; omega
      obtain ⟨e, rfl, g4'⟩ := g4 h7'
      conv => whnf
      refine br2 (fun h8 => ?_) (fun h8 => ?_)
      · have h8' : (Tw.mk us is).deep ≠ e := by
          replace h8 : (IntKind.i64.wrap (((Tw.mk us is).deep : Int) + 1) != ((e + 1 : Nat) : Int)) = true := h8
          rw [hwd] at h8
          simp at h8; omega
        conv => whnf
        refine ⟨⟨rfl, bad (d := 0) (no (fun e' h1 _ q hq h2 => ?_) (.inl h7'))⟩⟩
        have a1 := h1.deep
        have a2 := (g4' q hq).deep
        have a3 := h2.deep
        omega
      · have h8' : (Tw.mk us is).deep = e := by
          replace h8 : (IntKind.i64.wrap (((Tw.mk us is).deep : Int) + 1) != ((e + 1 : Nat) : Int)) = false := h8
          rw [hwd] at h8
          simp at h8; omega
        conv => whnf
        refine step (by rw [h8']; exact g4') ⟨rfl, ⟨hw, rfl, rfl, ?_, trivial⟩, rfl, rfl, rfl, trivial⟩
        show V.lf (.int .i64 (IntKind.i64.wrap (((Tw.mk us is).deep : Int) + 1))) = _
        rw [hwd]
    · have h7' : i = 0 := by have := of_decide_eq_false h7; omega
      subst h7'
      conv => whnf
      refine step (fun q hq => by simp at hq) ⟨rfl, ⟨hw, rfl, rfl, ?_, trivial⟩, rfl, rfl, rfl, trivial⟩
      show V.lf (.int .i64 (IntKind.i64.wrap (((Tw.mk us is).deep : Int) + 1))) = _
      rw [hwd]
  · have hi : i = ks.length := by have := of_decide_eq_false h5; omega
    subst hi
    obtain ⟨e, rfl, g5⟩ := g4 hlen
    rw [List.take_length] at g5
    have hL : Lev (e + 1) (.mk ps ks) := .node hne g5
    have hdp := hL.deep
    conv => whnf
    refine ⟨⟨rfl, _, rfl, ?_, fun _ => ⟨?_, ?_⟩, fun h => ?_⟩⟩
    · show ((e + 1 : Nat) : Int) ≤ ((Tw.mk ps ks).deep : Int); rw [hdp]; omega
    · show Lev (Tw.mk ps ks).deep (Tw.mk ps ks); rw [hdp]; exact hL
    · show ((e + 1 : Nat) : Int) = ((Tw.mk ps ks).deep : Int); rw [hdp]
    · omega
theorem sDeep_ok : FnOk Try.prog 136 cSDeep := fn_rec (fun t => t.x.deep) fun n hs x hx => fnX_at tab_ok (SOk.cons hs (SOk.nil)) mixed (fn := Try.f136) (code := body Try.f136) ⟨Try.func136, rfl, by kernel_rfl, by kernel_rfl, by kernel_rfl, by kernel_rfl⟩ (ev_sDeep n x hx)
structure FullX where
  t : SubX
  root : Bool
theorem ev_sFull : ∀ n x, (fun f => f.t.x.deep) x = n → evFnX tab [(135, (pureC FullX [(.rd, true), (.rd, false)] [false] (fun f => [subE f.t.n f.t.x, [.lf (.bool f.root)]]) (fun f => [[.lf (.bool (Tw.full f.root f.t.x))]])).below (fun f => f.t.x.deep) n)] (pureC FullX [(.rd, true), (.rd, false)] [false] (fun f => [subE f.t.n f.t.x, [.lf (.bool f.root)]]) (fun f => [[.lf (.bool (Tw.full f.root f.t.x))]])) Try.f135 (body Try.f135) x := by
  rintro M ⟨⟨n, ⟨ps, ks⟩, hd, hn⟩, root⟩ rfl
  replace hd : 1 + Tw.deeps ks ≤ n := hd
  obtain ⟨n, rfl⟩ : ∃ m, n = m + 1 := ⟨n - 1, by omega⟩
  conv => whnf
  refine br2 (fun h1 => ?_) (fun h1 => ?_)
  · obtain rfl : ks = [] := by cases ks with | nil => rfl | cons k r => cases h1
    have fin : ∀ b : Bool, b = (decide (ps.length ≤ 4) && (decide (2 ≤ ps.length) || root && decide (ps.length = 1))) → [[D.lf (.bool b)]] = [[D.lf (.bool (Tw.full root (.mk ps [])))]] := fun b h => by rw [full_leaf, h]
    conv => whnf
    intro _
    conv => whnf
    refine br2 (fun h2 => ?_) (fun h2 => ?_)
    · have h2' : ps.length ≤ 4 := by
        replace h2 : decide ((ps.length : Int) ≤ 4) = true := h2
        have := of_decide_eq_true h2; omega
      conv => whnf
      intro _
      conv => whnf
      refine br2 (fun h3 => ?_) (fun h3 => ?_)
      · have h3' : 2 ≤ ps.length := by
          replace h3 : decide ((ps.length : Int) ≥ 2) = true := h3
          have := of_decide_eq_true h3; omega
        conv => whnf
        refine ⟨⟨rfl, fin _ ?_⟩⟩
        simp [h2', h3']
      · have h3' : ¬ 2 ≤ ps.length := by
          replace h3 : decide ((ps.length : Int) ≥ 2) = false := h3
          have := of_decide_eq_false h3; omega
        cases root with
        | true =>
          conv => whnf
          intro _
          conv => whnf
          refine ⟨⟨rfl, fin _ ?_⟩⟩
          show ((ps.length : Int) == 1) = _
          simp [h2', h3']
          rw [Bool.eq_iff_iff]; simp; omega
        | false =>
          conv => whnf
          refine ⟨⟨rfl, fin _ ?_⟩⟩
          simp [h2', h3']
    · have h2' : ¬ ps.length ≤ 4 := by
        replace h2 : decide ((ps.length : Int) ≤ 4) = false := h2
        have := of_decide_eq_false h2; omega
      conv => whnf
      refine ⟨⟨rfl, fin _ ?_⟩⟩
      simp [h2']
  have hne : ks ≠ [] := by rintro rfl; cases h1
  have hlen : 0 < ks.length := List.length_pos_iff.2 hne
  have fin : ∀ b : Bool, b = (decide (2 ≤ ks.length) && decide (ks.length ≤ 4) && decide (ps.length = 0) && Tw.fulls ks) → [[D.lf (.bool b)]] = [[D.lf (.bool (Tw.full root (.mk ps ks)))]] := fun b h => by rw [full_node hne, h]
  conv => whnf
  intro hkl
  replace hkl : ks.length ≤ 9223372036854775807 := hkl
  conv => whnf
  refine br2 (fun h2 => ?_) (fun h2 => ?_)
  · have h2' : ¬ 2 ≤ ks.length := by
      replace h2 : decide ((ks.length : Int) < 2) = true := h2
      have := of_decide_eq_true h2; omega
    conv => whnf
    refine ⟨⟨rfl, fin _ ?_⟩⟩
    simp [h2']
  have h2' : 2 ≤ ks.length := by
    replace h2 : decide ((ks.length : Int) < 2) = false := h2
    have := of_decide_eq_false h2; omega
  conv => whnf
  intro _
  conv => whnf
  refine br2 (fun h3 => ?_) (fun h3 => ?_)
  · have h3' : ¬ ks.length ≤ 4 := by
      replace h3 : decide ((ks.length : Int) > 4) = true := h3
      have := of_decide_eq_true h3; omega
    conv => whnf
    refine ⟨⟨rfl, fin _ ?_⟩⟩
    simp [h3']
  have h3' : ks.length ≤ 4 := by
    replace h3 : decide ((ks.length : Int) > 4) = false := h3
    have := of_decide_eq_false h3; omega
  conv => whnf
  intro _
  conv => whnf
  refine br2 (fun h4 => ?_) (fun h4 => ?_)
  · have h4' : ¬ ps.length = 0 := by
      replace h4 : decide ((ps.length : Int) > 0) = true := h4
      have := of_decide_eq_true h4; omega
    conv => whnf
    refine ⟨⟨rfl, fin _ ?_⟩⟩
    simp only [h4', decide_false, Bool.and_false, Bool.false_and]
  have h4' : ps.length = 0 := by
    replace h4 : decide ((ps.length : Int) > 0) = false := h4
    have := of_decide_eq_false h4; omega
  have fin2 : ∀ b : Bool, b = Tw.fulls ks → [[D.lf (.bool b)]] = [[D.lf (.bool (Tw.full root (.mk ps ks)))]] := fun b h => fin b (by simp [h2', h3', h4', h])
  conv => whnf
  intro _
  conv => whnf
  let S0 : Nat → Sl := fun i => [(46, .lf (.int .i64 i)), (45, .lf (.int .i64 ks.length)), (2, .pt 32 0 0)]
  let H0 : Hp := [(32, some (.arr true 3 [[.lf (.bool ks.isEmpty), .sl 0 none, .sl 1 none]])), (0, some (.row .lent 2 RngX.ds ps)), (1, some (.row .lent 3 (subE n) ks))]
  refine ⟨fun m s h => ∃ i : Nat, i ≤ ks.length ∧ (∀ k ∈ ks.take i, Tw.full false k = true) ∧ m = ks.length - i ∧ s = S0 i ∧ h = H0, ks.length, [(32, 32), (0, 0), (1, 1)], S0 0, H0,
    ⟨rfl, ⟨rfl, rfl, rfl, trivial⟩, rfl, rfl, rfl, trivial⟩, ⟨0, by omega, fun k h => by simp at h, rfl, rfl, rfl⟩, ?_⟩
  rintro m _ _ ⟨i, g1, g2, rfl, rfl, rfl⟩
  conv => whnf
  refine br2 (fun h5 => ?_) (fun h5 => ?_)
  · have hi : i < ks.length := by have := of_decide_eq_true h5; omega
    obtain ⟨k, hk⟩ := getL hi
    have hkm := List.mem_of_getElem? hk
    have hkd := deeps_mem hkm
    have hkp := k.deep_pos
    obtain ⟨us, is⟩ := k
    replace hkd : (Tw.mk us is).deep ≤ n := by omega
    obtain ⟨n', rfl⟩ : ∃ q, n = q + 1 := ⟨n - 1, by omega⟩
    conv => whnf
    refine ⟨Int.natCast_nonneg _, ltI hk, ?_⟩
    conv => whnf
    refine ex2 _ (nthI hk) ?_
    conv => whnf
    refine ⟨⟨⟨⟨n' + 1, .mk us is, hkd, by omega⟩, false⟩, by show (Tw.mk us is).deep < 1 + Tw.deeps ks; have := deeps_mem hkm; omega⟩, rfl, ?_⟩
    rintro _ _ ⟨rfl, rfl⟩
    conv => whnf
    refine br2 (fun h6 => ?_) (fun h6 => ?_)
    · have h6' : Tw.full false (.mk us is) = false := by
        replace h6 : (!Tw.full false (.mk us is)) = true := h6
        simpa using h6
      conv => whnf
      refine ⟨⟨rfl, fin2 _ ?_⟩⟩
      cases e : Tw.fulls ks with
      | false => rfl
      | true => rw [fulls_iff.1 e _ hkm] at h6'; cases h6'
    · have h6' : Tw.full false (.mk us is) = true := by
        replace h6 : (!Tw.full false (.mk us is)) = false := h6
        simpa using h6
      conv => whnf
      refine ⟨ks.length - (i + 1), [(32, 32), (0, 0), (1, 1)], S0 (i + 1), H0, by omega, ⟨rfl, ⟨incI hi hkl, rfl, rfl, trivial⟩, rfl, rfl, rfl, trivial⟩, i + 1, by omega, fun q hq => ?_, rfl, rfl, rfl⟩
      rw [List.take_add_one, hk] at hq
      rcases List.mem_append.1 hq with hq | hq
      · exact g2 q hq
      · simp at hq; subst hq; exact h6'
  · have hi : i = ks.length := by have := of_decide_eq_false h5; omega
    subst hi
    rw [List.take_length] at g2
    conv => whnf
    exact ⟨⟨rfl, fin2 _ (fulls_iff.2 g2).symm⟩⟩
theorem sFull_ok : FnOk Try.prog 135 (pureC FullX [(.rd, true), (.rd, false)] [false] (fun f => [subE f.t.n f.t.x, [.lf (.bool f.root)]]) (fun f => [[.lf (.bool (Tw.full f.root f.t.x))]])) := fn_rec (fun f => f.t.x.deep) fun n hs x hx => fnX_at tab_ok (SOk.cons hs (SOk.nil)) mixed (fn := Try.f135) (code := body Try.f135) ⟨Try.func135, rfl, by kernel_rfl, by kernel_rfl, by kernel_rfl, by kernel_rfl⟩ (ev_sFull n x hx)
theorem Tw.len_sizes : ∀ l : List Tw, l.length ≤ Tw.sizes l
  | [] => Nat.le_refl _
  | k :: l => by simp only [Tw.sizes, List.length_cons]; have := Tw.len_sizes l; have := k.size_pos; omega
/-! Reading -/
structure ReadX where
  N : List NodeX
  at_ : Nat
  b : Nat
  deep : Int
  hN : N.length ≤ 1048576
  hp : ∀ n ∈ N, n.ps.length ≤ 1048576
  hb : deep + b = 13
  h0 : 0 ≤ deep
def optS (b : Nat) : Option Tw → List D
  | none => [.lf (.bool false), .row 2 RngX.ds [], .row 3 (subE 0) []]
  | some x => subE b x
structure ReadR (N : List NodeX) (a b : Nat) (o : Option Tw) (next : Int) (ok : Bool) : Prop where
  yes : ok = true → ∃ x, o = some x ∧ Fit false N a x ∧ x.deep ≤ b ∧ next = ((a + x.size : Nat) : Int)
  no : ok = false → o = none ∧ ∀ x, Fit false N a x → ¬ x.deep ≤ b
def cSRead : Con := relC ReadX [(.rd, true), (.rd, false), (.rd, false)] [true, false, false] (fun g => [[.row 3 NodeX.ds g.N], [.lf (.int .i64 g.at_)], [.lf (.int .i64 g.deep)]])
  (fun g r => ∃ o next ok, r = [optS g.b o, [.lf (.int .i64 next)], [.lf (.bool ok)]] ∧ ReadR g.N g.at_ g.b o next ok)
structure SubsTo (N : List NodeX) (a b : Nat) (n : NodeX) (l : List Tw) : Prop where
  fit : FitK false N (a + 1) l
  kids : n.kids.take l.length = kidsAt l (a + 1)
  deep : ∀ k ∈ l, k.deep ≤ b
theorem SubsTo.snoc {N : List NodeX} {a b : Nat} {n : NodeX} {l : List Tw} {k : Tw} (h : SubsTo N a b n l) (hk : n.kids[l.length]? = some (((a + 1 + Tw.sizes l : Nat)) : Int)) (hf : Fit false N (a + 1 + Tw.sizes l) k) (hd : k.deep ≤ b) : SubsTo N a b n (l ++ [k]) := by
  refine ⟨fitK_app.2 ⟨h.fit, fitK_one.2 hf⟩, ?_, fun q hq => ?_⟩
  · rw [List.length_append, List.length_singleton, List.take_add_one, h.kids, hk, kidsAt_app]; rfl
  · rcases List.mem_append.1 hq with hq | hq
    · exact h.deep q hq
    · simp at hq; subst hq; exact hd
theorem SubsTo.next {N : List NodeX} {a b : Nat} {n : NodeX} {l : List Tw} (h : SubsTo N a b n l) (hn : N[a]? = some n) (hl : l.length < n.kids.length) {x : Tw} (hf : Fit false N a x) (hd : x.deep ≤ b + 1) :
    ∃ k, n.kids[l.length]? = some ((a + 1 + Tw.sizes l : Nat) : Int) ∧ Fit false N (a + 1 + Tw.sizes l) k ∧ k.deep ≤ b := by
  obtain ⟨ps, ks⟩ := x
  simp only [Fit] at hf
  obtain ⟨⟨n', e1, e2, e3, e4⟩, h2⟩ := hf
  rw [hn] at e1; cases e1
  have hlen : n.kids.length = ks.length := by rw [e3, kidsAt_len]
  have hfr := h.fit.front h2 (by omega)
  obtain ⟨k, hk⟩ := getL (l := ks) (j := l.length) (by omega)
  have hkf := h2.get hk
  rw [← hfr] at hkf
  have := deeps_mem (List.mem_of_getElem? hk)
  rw [mk_deep] at hd
  exact ⟨k, by rw [e3, kidsAt_get _ _ _ (by omega), ← hfr], hkf, by omega⟩
theorem ev_sRead : ∀ n x, (fun g => g.b) x = n → evFnX tab [(185, cSRead.below (fun g => g.b) n), (1000006, cGh)] cSRead Try.f185 (body Try.f185) x := by
  rintro M ⟨N, a, b, deep, hN, hp, hb, h00⟩ rfl
  replace hN : N.length ≤ 1048576 := hN
  replace hp : ∀ n ∈ N, n.ps.length ≤ 1048576 := hp
  replace hb : deep + b = 13 := hb
  replace h00 : 0 ≤ deep := h00
  have zero : ∀ {P : Prop}, ReadR N a b none 0 false → P → P := fun _ h => h
  conv => whnf
  intro _
  conv => whnf
  have none0 : ∀ {P : Prop}, P → P := fun h => h
  refine br2 (fun h1 => ?_) (fun h1 => ?_)
  · have h1' : N.length ≤ a := by
      replace h1 : decide ((a : Int) ≥ (N.length : Int)) = true := h1
      have := of_decide_eq_true h1; omega
    conv => whnf
    refine ⟨2, RngX, RngX.ds, fun _ => rfl, ?_⟩
    conv => whnf
    refine ⟨3, Tw, subE 0, subE_len 0, ?_⟩
    conv => whnf
    refine ⟨⟨rfl, none, _, _, rfl, fun h => (by cases h), fun _ => ⟨rfl, fun x hf _ => ?_⟩⟩⟩
    have h3 : a + x.size ≤ N.length := hf.le
    have := x.size_pos
    omega
  have h1' : a < N.length := by
    replace h1 : decide ((a : Int) ≥ (N.length : Int)) = false := h1
    have := of_decide_eq_false h1; omega
  conv => whnf
  refine br2 (fun h2 => ?_) (fun h2 => ?_)
  · have h2' : 12 < deep := of_decide_eq_true h2
    conv => whnf
    refine ⟨2, RngX, RngX.ds, fun _ => rfl, ?_⟩
    conv => whnf
    refine ⟨3, Tw, subE 0, subE_len 0, ?_⟩
    conv => whnf
    refine ⟨⟨rfl, none, _, _, rfl, fun h => (by cases h), fun _ => ⟨rfl, fun x _ hd => ?_⟩⟩⟩
    have := x.deep_pos
    replace hd : x.deep ≤ b := hd
    omega
  have h2' : deep ≤ 12 := by
    have h3 : ¬ deep > 12 := of_decide_eq_false h2
    omega
  obtain ⟨b, rfl⟩ : ∃ q, b = q + 1 := ⟨b - 1, by omega⟩
  obtain ⟨⟨ps, keys, kids⟩, hn⟩ := getL h1'
  have hps : ps.length ≤ 1048576 := hp _ (List.mem_of_getElem? hn)
  conv => whnf
  refine ⟨Int.natCast_nonneg _, ltI hn, ?_⟩
  conv => whnf
  refine ex2 _ (nthI hn) ?_
  conv => whnf
  intro hkl
  replace hkl : kids.length ≤ 9223372036854775807 := hkl
  conv => whnf
  repeat ((first | refine rc_i rfl ?_ | refine rc_i (fun _ => rfl) ?_); conv => whnf)
  refine ⟨true, ?_⟩
  conv => whnf
  refine ⟨RngX, RngX.ds, [], fun _ => rfl, rfl, ?_⟩
  conv => whnf
  refine ⟨fun _ => rfl, ps, rfl, ?_, ?_⟩
  · show 0 + ps.length ≤ 4294967296; omega
  conv => whnf
  repeat ((first | refine rc_i rfl ?_ | refine rc_i (fun _ => rfl) ?_); conv => whnf)
  refine ⟨[.nlc 160 0 2 1000], ?_⟩
  conv => whnf
  refine ⟨3, Tw, subE b, subE_len b, ?_⟩
  conv => whnf
  intro _
  conv => whnf
  have hw : IntKind.i64.wrap ((a : Int) + 1) = ((a + 1 : Nat) : Int) := by rw [w64 (by omega) (by omega)]; omega
  have hwd : IntKind.i64.wrap (deep + 1) = deep + 1 := w64 (by omega) (by omega)
  let S0 : Nat → Nat → Sl := fun i nx => [(50, .lf (.int .i64 i)), (49, .lf (.int .i64 kids.length)), (48, .sl 562 none), (11, .lf (.int .i64 nx)), (10, .pt 160 0 0), (3, .pt 48 0 0), (6, .pt 96 0 0), (2, .lf (.int .i64 deep))]
  let H0 : List Tw → Hp := fun l => [(562, some (.row .lent 1 intE1 kids)), (160, some (.arr true 3 [[.lf (.bool ((kids.length : Int) == 0)), .sl 688 none, .sl 16000 none]])), (688, some (.row .own 2 RngX.ds ps)), (16000, some (.row .own 3 (subE b) l)),
    (48, some (.arr true 1 [[.sl 0 none]])), (0, some (.row .lent 3 NodeX.ds N)), (96, some (.arr true 3 [[.lf (.bool false), .lf (.slice none 0 0), .lf (.slice none 0 0)]]))]
  refine ⟨fun m s h => ∃ l : List Tw, l.length ≤ kids.length ∧ SubsTo N a b ⟨ps, keys, kids⟩ l ∧ m = kids.length - l.length ∧ s = S0 l.length (a + 1 + Tw.sizes l) ∧ h = H0 l, kids.length, [(562, 562), (160, 160), (688, 688), (16000, 16000), (48, 48), (0, 0), (96, 96)], S0 0 (a + 1), H0 [],
    ⟨rfl, ⟨rfl, rfl, rfl, ?_, rfl, rfl, rfl, rfl, trivial⟩, rfl, rfl, rfl, rfl, rfl, rfl, rfl, trivial⟩, ⟨[], Nat.zero_le _, ⟨trivial, rfl, fun k h => by simp at h⟩, rfl, rfl, rfl⟩, ?_⟩
  · show V.lf (.int .i64 (IntKind.i64.wrap ((a : Int) + 1))) = _
    rw [hw]
  rintro m _ _ ⟨l, g1, hK, rfl, rfl, rfl⟩
  conv => whnf
  refine br2 (fun h6 => ?_) (fun h6 => ?_)
  · have hi : l.length < kids.length := by have := of_decide_eq_true h6; omega
    obtain ⟨c, hc⟩ := getL hi
    have hfit : a + 1 + Tw.sizes l ≤ N.length := FitK.le l (a + 1) hK.fit (by omega)
    have fail : (∀ k, c = ((a + 1 + Tw.sizes l : Nat) : Int) → Fit false N (a + 1 + Tw.sizes l) k → k.deep ≤ b → False) → ReadR N a (b + 1) none 0 false := by
      intro hb
      refine ⟨fun h => (by cases h), fun _ => ⟨rfl, fun x hf hd => ?_⟩⟩
      obtain ⟨k, k1, k2, k3⟩ := hK.next hn hi hf hd
      replace k1 : kids[l.length]? = some ((a + 1 + Tw.sizes l : Nat) : Int) := k1
      rw [hc] at k1
      exact hb k (Option.some.inj k1) k2 k3
    conv => whnf
    refine ⟨Int.natCast_nonneg _, ltI hc, ?_⟩
    conv => whnf
    refine ex2 _ (nthI hc) ?_
    conv => whnf
    refine br2 (fun h7 => ?_) (fun h7 => ?_)
    · have h7' : c ≠ ((a + 1 + Tw.sizes l : Nat) : Int) := by
        replace h7 : (c != ((a + 1 + Tw.sizes l : Nat) : Int)) = true := h7
        simpa using h7
      conv => whnf
      refine ⟨2, RngX, RngX.ds, fun _ => rfl, ?_⟩
      conv => whnf
      refine ⟨3, Tw, subE 0, subE_len 0, ?_⟩
      conv => whnf
      exact ⟨⟨rfl, none, _, _, rfl, fail fun k h _ _ => h7' h⟩⟩
    have h7' : c = ((a + 1 + Tw.sizes l : Nat) : Int) := by
      replace h7 : (c != ((a + 1 + Tw.sizes l : Nat) : Int)) = false := h7
      simpa using h7
    subst h7'
    generalize hnx : a + 1 + Tw.sizes l = nx at *
    conv => whnf
    refine ⟨⟨⟨N, nx, b, IntKind.i64.wrap (deep + 1), hN, hp, by rw [hwd]; omega, by rw [hwd]; omega⟩, Nat.lt_succ_self b⟩, rfl, ?_⟩
    rintro _ _ ⟨rfl, o, next, ok, rfl, rr⟩
    replace rr : ReadR N nx b o next ok := rr
    cases ok with
    | false =>
      obtain ⟨rfl, rno⟩ := rr.no rfl
      conv => whnf
      refine ⟨2, RngX, RngX.ds, fun _ => rfl, ?_⟩
      conv => whnf
      refine ⟨3, Tw, subE 0, subE_len 0, ?_⟩
      conv => whnf
      exact ⟨⟨rfl, none, _, _, rfl, fail fun k _ k2 k3 => rno k k2 k3⟩⟩
    | true =>
    obtain ⟨⟨us, is⟩, rfl, hxf, hd, rfl⟩ := rr.yes rfl
    have hdp := (Tw.mk us is).deep_pos
    obtain ⟨b, rfl⟩ : ∃ q, b = q + 1 := ⟨b - 1, by omega⟩
    have hsz : a + 1 + Tw.sizes (l ++ [.mk us is]) = nx + (Tw.mk us is).size := by rw [Tw.sizes_app, ← hnx]; simp [Tw.sizes]; omega
    conv => whnf
    refine ⟨[.mk us is], rfl, ?_, ?_⟩
    · show l.length + 1 ≤ 4294967296
      have := Tw.len_sizes l
      omega
    conv => whnf
    refine ⟨kids.length - (l.length + 1), [(562, 562), (160, 160), (688, 688), (1184, 16000), (48, 48), (0, 0), (96, 96)], S0 (l.length + 1) (nx + (Tw.mk us is).size), H0 (l ++ [.mk us is]), by omega,
      ⟨rfl, ⟨incI hi hkl, rfl, rfl, rfl, rfl, rfl, rfl, rfl, trivial⟩, by rfl, by rfl, by rfl, by rfl, by rfl, by rfl, by rfl, trivial⟩, l ++ [.mk us is], by simp; omega, hK.snoc (by rw [hnx]; exact hc) (by rw [hnx]; exact hxf) hd, by simp, by rw [hsz]; simp, rfl⟩
  · have hi : l.length = kids.length := by have := of_decide_eq_false h6; omega
    have hfitl : Fit false N a (.mk ps l) := by
      simp only [Fit]
      refine ⟨⟨_, hn, rfl, ?_, fun h => by cases h⟩, hK.fit⟩
      have := hK.kids
      rw [hi, List.take_length] at this
      exact this
    have hdl : (Tw.mk ps l).deep ≤ b + 1 := by
      rw [mk_deep]
      have : ∀ q : List Tw, (∀ k ∈ q, k.deep ≤ b) → Tw.deeps q ≤ b := by
        intro q
        induction q with
        | nil => intro _; exact Nat.zero_le _
        | cons k q ih =>
          intro h
          simp only [Tw.deeps]
          have := h k (by simp)
          have := ih fun z hz => h z (by simp [hz])
          omega
      have := this l hK.deep
      omega
    conv => whnf
    refine ⟨⟨rfl, some (.mk ps l), ((a + 1 + Tw.sizes l : Nat) : Int), true, ?_, ⟨fun _ => ⟨.mk ps l, rfl, hfitl, hdl, ?_⟩, fun h => (by cases h)⟩⟩⟩
    · show [[D.lf (.bool ((kids.length : Int) == 0)), .row 2 RngX.ds ps, .row 3 (subE b) l], _, _] = [[D.lf (.bool l.isEmpty), .row 2 RngX.ds ps, .row 3 (subE b) l], _, _]
      have : ((kids.length : Int) == 0) = l.isEmpty := by rw [Bool.eq_iff_iff, List.isEmpty_iff, beq_iff_eq, ← List.length_eq_zero_iff]; omega
      rw [this]
    · simp only [Tw.size]; rw [Nat.add_assoc]
theorem sRead_ok : FnOk Try.prog 185 cSRead := fn_rec (fun g => g.b) fun n hs x hx => fnX_at tab_ok (SOk.cons hs (SOk.cons gh_ok SOk.nil)) mixed (fn := Try.f185) (code := body Try.f185) ⟨Try.func185, rfl, by kernel_rfl, by kernel_rfl, by kernel_rfl, by kernel_rfl⟩ (ev_sRead n x hx)
structure RootS (N : List NodeX) (o : Option Tw) (ok : Bool) : Prop where
  yes : ok = true → N ≠ [] → ∃ x, o = some x ∧ Fit false N 0 x ∧ x.size = N.length ∧ x.deep ≤ 13
  no : ok = false → ∀ x, Fit false N 0 x → x.size = N.length → ¬ x.deep ≤ 13
  emp : N = [] → o = some (.mk [] []) ∧ ok = true
def cSRoot : Con := relC TreeX [(.rd, true)] [true, false] (fun g => [[.row 3 NodeX.ds g.N]]) (fun g r => ∃ o ok, r = [optS 13 o, [.lf (.bool ok)]] ∧ RootS g.N o ok)
theorem ev_sRoot : ∀ x, evFnX tab [(185, cSRead)] cSRoot Try.f131 (body Try.f131) x := by
  rintro ⟨N, f, hf, hN, hp⟩
  replace hN : N.length ≤ 1048576 := hN
  conv => whnf
  intro _
  conv => whnf
  refine br2 (fun h1 => ?_) (fun h1 => ?_)
  · have h1' : N = [] := by
      replace h1 : ((N.length : Int) == 0) = true := h1
      exact List.eq_nil_of_length_eq_zero (by simpa using h1)
    subst h1'
    conv => whnf
    refine ⟨2, RngX, RngX.ds, fun _ => rfl, ?_⟩
    conv => whnf
    refine ⟨3, Tw, subE 12, subE_len 12, ?_⟩
    conv => whnf
    exact ⟨⟨rfl, some (.mk [] []), true, rfl, fun _ h => absurd rfl h, fun h => (by cases h), fun _ => ⟨rfl, rfl⟩⟩⟩
  have h1' : N ≠ [] := by
    replace h1 : ((N.length : Int) == 0) = false := h1
    rintro rfl; simp at h1
  conv => whnf
  refine ⟨⟨N, 0, 13, 0, hN, hp, rfl, by omega⟩, rfl, ?_⟩
  rintro _ _ ⟨rfl, o, next, ok, rfl, rr⟩
  replace rr : ReadR N 0 13 o next ok := rr
  cases ok with
  | false =>
    obtain ⟨rfl, rno⟩ := rr.no rfl
    conv => whnf
    repeat ((first | refine rc_i rfl ?_ | refine rc_i (fun _ => rfl) ?_); conv => whnf)
    exact ⟨⟨rfl, none, false, rfl, fun h => (by cases h), fun _ x hf _ hd => rno x hf hd, fun h => absurd h h1'⟩⟩
  | true =>
    obtain ⟨⟨us, is⟩, rfl, hxf, hd, rfl⟩ := rr.yes rfl
    conv => whnf
    intro _
    conv => whnf
    repeat ((first | refine rc_i rfl ?_ | refine rc_i (fun _ => rfl) ?_); conv => whnf)
    refine ⟨⟨rfl, some (.mk us is), _, rfl, ⟨fun h _ => ⟨_, rfl, hxf, ?_, hd⟩, fun h x hf hs _ => ?_, fun h => absurd h h1'⟩⟩⟩
    · replace h : (((0 + (Tw.mk us is).size : Nat) : Int) == (N.length : Int)) = true := h
      rw [beq_iff_eq] at h
      show (Tw.mk us is).size = N.length
      omega
    · replace h : (((0 + (Tw.mk us is).size : Nat) : Int) == (N.length : Int)) = false := h
      replace hs : x.size = N.length := hs
      rw [Fit.uniq x _ 0 hf hxf] at hs
      rw [beq_eq_false_iff_ne] at h
      omega
theorem sRoot_ok : FnOk Try.prog 131 cSRoot := fnOk_of fun x => fnX_at tab_ok (SOk.cons sRead_ok SOk.nil) mixed (fn := Try.f131) (code := body Try.f131) ⟨Try.func131, rfl, by kernel_rfl, by kernel_rfl, by kernel_rfl, by kernel_rfl⟩ (ev_sRoot x)
end Go.Vm
namespace Go.Vm
open Go.Proofs
set_option maxRecDepth 100000
set_option linter.unusedVariables false
set_option linter.unusedSimpArgs false

def PreEq {α : Type} (l m : List α) (i : Nat) : Prop := ∀ j, j < i → l[j]? = m[j]?
theorem preEq_all {α : Type} {l m : List α} (h : l.length = m.length) (g : PreEq l m l.length) : l = m := by
  apply List.ext_getElem?
  intro j
  rcases Nat.lt_or_ge j l.length with h1 | h1
  · exact g j h1
  · rw [List.getElem?_eq_none h1, List.getElem?_eq_none (by omega)]
theorem PreEq.snoc {α : Type} {l m : List α} {i : Nat} {y : α} (h : PreEq l m i) (hl : l[i]? = some y) (hm : m[i]? = some y) : PreEq l m (i + 1) := fun j hj => by
  rcases Nat.lt_or_ge j i with h1 | h1
  · exact h j h1
  · obtain rfl : j = i := by omega
    rw [hl, hm]
theorem ev_sameNode : ∀ x, evFnX tab [] (cEq NodeX.ds) Try.f138 (body Try.f138) x := by
  rintro ⟨⟨ps, keys, kids⟩, ⟨qs, leys, lids⟩⟩
  have no : (⟨ps, keys, kids⟩ : NodeX) ≠ ⟨qs, leys, lids⟩ → [[D.lf (.bool false)]] = [[D.lf (.bool (eqX (⟨ps, keys, kids⟩ : NodeX) ⟨qs, leys, lids⟩))]] := fun h => by rw [eqX_no.2 h]
  conv => whnf
  intro hl1
  replace hl1 : ps.length ≤ 9223372036854775807 := hl1
  conv => whnf
  intro _
  conv => whnf
  refine br2 (fun h1 => ?_) (fun h1 => ?_)
  · replace h1 : ((ps.length : Int) != (qs.length : Int)) = true := h1
    conv => whnf
    refine ⟨⟨rfl, no ?_⟩⟩
    rintro ⟨⟩; simp at h1
  replace h1 : ((ps.length : Int) != (qs.length : Int)) = false := h1
  have h1' : ps.length = qs.length := by simp at h1; omega
  conv => whnf
  intro hl2
  replace hl2 : keys.length ≤ 9223372036854775807 := hl2
  conv => whnf
  intro _
  conv => whnf
  refine br2 (fun h2 => ?_) (fun h2 => ?_)
  · replace h2 : ((keys.length : Int) != (leys.length : Int)) = true := h2
    conv => whnf
    refine ⟨⟨rfl, no ?_⟩⟩
    rintro ⟨⟩; simp at h2
  replace h2 : ((keys.length : Int) != (leys.length : Int)) = false := h2
  have h2' : keys.length = leys.length := by simp at h2; omega
  conv => whnf
  intro hl3
  replace hl3 : kids.length ≤ 9223372036854775807 := hl3
  conv => whnf
  intro _
  conv => whnf
  refine br2 (fun h3 => ?_) (fun h3 => ?_)
  · replace h3 : ((kids.length : Int) != (lids.length : Int)) = true := h3
    conv => whnf
    refine ⟨⟨rfl, no ?_⟩⟩
    rintro ⟨⟩; simp at h3
  replace h3 : ((kids.length : Int) != (lids.length : Int)) = false := h3
  have h3' : kids.length = lids.length := by simp at h3; omega
  conv => whnf
  intro _
  conv => whnf
  let H0 : Hp := [(32, some (.arr true 3 [[.sl 0 none, .sl 1 none, .sl 2 none]])), (48, some (.arr true 3 [[.sl 16 none, .sl 17 none, .sl 18 none]])), (0, some (.row .lent 2 RngX.ds ps)), (1, some (.row .lent 1 strE1 keys)), (2, some (.row .lent 1 intE1 kids)),
    (16, some (.row .lent 2 RngX.ds qs)), (17, some (.row .lent 1 strE1 leys)), (18, some (.row .lent 1 intE1 lids))]
  let R0 : List (Nat × Nat) := [(32, 32), (48, 48), (0, 0), (1, 1), (2, 2), (16, 16), (17, 17), (18, 18)]
  let S1 : Nat → Sl := fun i => [(36, .lf (.int .i64 i)), (35, .lf (.int .i64 ps.length)), (2, .pt 32 0 0), (3, .pt 48 0 0)]
  refine ⟨fun m s h => ∃ i : Nat, i ≤ ps.length ∧ PreEq ps qs i ∧ m = ps.length - i ∧ s = S1 i ∧ h = H0, ps.length, R0, S1 0, H0, ⟨rfl, ⟨rfl, rfl, rfl, rfl, trivial⟩, rfl, rfl, rfl, rfl, rfl, rfl, rfl, rfl, trivial⟩, ⟨0, by omega, fun j h => by omega, rfl, rfl, rfl⟩, ?_⟩
  rintro m _ _ ⟨i, g1, g2, rfl, rfl, rfl⟩
  conv => whnf
  refine br2 (fun h5 => ?_) (fun h5 => ?_)
  · have hi : i < ps.length := by have := of_decide_eq_true h5; omega
    obtain ⟨y, hy⟩ := getL hi
    obtain ⟨z, hz⟩ := getL (l := qs) (j := i) (by omega)
    conv => whnf
    refine ⟨Int.natCast_nonneg _, ltI hy, ?_⟩
    conv => whnf
    refine ex2 _ (nthI hy) ?_
    conv => whnf
    refine ⟨Int.natCast_nonneg _, ltI hz, ?_⟩
    conv => whnf
    refine ex2 _ (nthI hz) ?_
    conv => whnf
    refine br2 (fun h6 => ?_) (fun h6 => ?_)
    · replace h6 : (!(strEq y.lo z.lo && (strEq y.hi z.hi && true))) = true := h6
      conv => whnf
      refine ⟨⟨rfl, no ?_⟩⟩
      rintro ⟨⟩
      rw [hy] at hz; cases hz
      simp [strEq_refl] at h6
    · replace h6 : (!(strEq y.lo z.lo && (strEq y.hi z.hi && true))) = false := h6
      have e : y = z := by
        simp [strEq_iff] at h6
        obtain ⟨a, b⟩ := y; obtain ⟨c, d⟩ := z
        simp at h6; rw [h6.1, h6.2]
      subst e
      conv => whnf
      exact ⟨ps.length - (i + 1), R0, S1 (i + 1), H0, by omega, ⟨rfl, ⟨incI hi hl1, rfl, rfl, rfl, trivial⟩, rfl, rfl, rfl, rfl, rfl, rfl, rfl, rfl, trivial⟩, i + 1, by omega, g2.snoc hy hz, rfl, rfl, rfl⟩
  have hi : i = ps.length := by have := of_decide_eq_false h5; omega
  subst hi
  obtain rfl := preEq_all h1' g2
  clear g1 g2 h5
  conv => whnf
  intro _
  conv => whnf
  let S2 : Nat → Sl := fun i => [(54, .lf (.int .i64 i)), (53, .lf (.int .i64 keys.length)), (2, .pt 32 0 0), (3, .pt 48 0 0)]
  refine ⟨fun m s h => ∃ i : Nat, i ≤ keys.length ∧ PreEq keys leys i ∧ m = keys.length - i ∧ s = S2 i ∧ h = H0, keys.length, R0, S2 0, H0, ⟨rfl, ⟨rfl, rfl, rfl, rfl, trivial⟩, rfl, rfl, rfl, rfl, rfl, rfl, rfl, rfl, trivial⟩, ⟨0, by omega, fun j h => by omega, rfl, rfl, rfl⟩, ?_⟩
  rintro m _ _ ⟨i, g1, g2, rfl, rfl, rfl⟩
  conv => whnf
  refine br2 (fun h5 => ?_) (fun h5 => ?_)
  · have hi : i < keys.length := by have := of_decide_eq_true h5; omega
    obtain ⟨y, hy⟩ := getL hi
    obtain ⟨z, hz⟩ := getL (l := leys) (j := i) (by omega)
    conv => whnf
    refine ⟨Int.natCast_nonneg _, ltI hy, ?_⟩
    conv => whnf
    refine ex2 _ (nthI hy) ?_
    conv => whnf
    refine ⟨Int.natCast_nonneg _, ltI hz, ?_⟩
    conv => whnf
    refine ex2 _ (nthI hz) ?_
    conv => whnf
    refine br2 (fun h6 => ?_) (fun h6 => ?_)
    · replace h6 : (!strEq y z) = true := h6
      conv => whnf
      refine ⟨⟨rfl, no ?_⟩⟩
      rintro ⟨⟩
      rw [hy] at hz; cases hz
      simp [strEq_refl] at h6
    · replace h6 : (!strEq y z) = false := h6
      have e : y = z := by simpa [strEq_iff] using h6
      subst e
      conv => whnf
      exact ⟨keys.length - (i + 1), R0, S2 (i + 1), H0, by omega, ⟨rfl, ⟨incI hi hl2, rfl, rfl, rfl, trivial⟩, rfl, rfl, rfl, rfl, rfl, rfl, rfl, rfl, trivial⟩, i + 1, by omega, g2.snoc hy hz, rfl, rfl, rfl⟩
  have hi : i = keys.length := by have := of_decide_eq_false h5; omega
  subst hi
  obtain rfl := preEq_all h2' g2
  clear g1 g2 h5
  conv => whnf
  intro _
  conv => whnf
  let S3 : Nat → Sl := fun i => [(72, .lf (.int .i64 i)), (71, .lf (.int .i64 kids.length)), (2, .pt 32 0 0), (3, .pt 48 0 0)]
  refine ⟨fun m s h => ∃ i : Nat, i ≤ kids.length ∧ PreEq kids lids i ∧ m = kids.length - i ∧ s = S3 i ∧ h = H0, kids.length, R0, S3 0, H0, ⟨rfl, ⟨rfl, rfl, rfl, rfl, trivial⟩, rfl, rfl, rfl, rfl, rfl, rfl, rfl, rfl, trivial⟩, ⟨0, by omega, fun j h => by omega, rfl, rfl, rfl⟩, ?_⟩
  rintro m _ _ ⟨i, g1, g2, rfl, rfl, rfl⟩
  conv => whnf
  refine br2 (fun h5 => ?_) (fun h5 => ?_)
  · have hi : i < kids.length := by have := of_decide_eq_true h5; omega
    obtain ⟨y, hy⟩ := getL hi
    obtain ⟨z, hz⟩ := getL (l := lids) (j := i) (by omega)
    conv => whnf
    refine ⟨Int.natCast_nonneg _, ltI hy, ?_⟩
    conv => whnf
    refine ex2 _ (nthI hy) ?_
    conv => whnf
    refine ⟨Int.natCast_nonneg _, ltI hz, ?_⟩
    conv => whnf
    refine ex2 _ (nthI hz) ?_
    conv => whnf
    refine br2 (fun h6 => ?_) (fun h6 => ?_)
    · replace h6 : (y != z) = true := h6
      conv => whnf
      refine ⟨⟨rfl, no ?_⟩⟩
      rintro ⟨⟩
      rw [hy] at hz; cases hz
      simp at h6
    · replace h6 : (y != z) = false := h6
      have e : y = z := by simpa using h6
      subst e
      conv => whnf
      exact ⟨kids.length - (i + 1), R0, S3 (i + 1), H0, by omega, ⟨rfl, ⟨incI hi hl3, rfl, rfl, rfl, trivial⟩, rfl, rfl, rfl, rfl, rfl, rfl, rfl, rfl, trivial⟩, i + 1, by omega, g2.snoc hy hz, rfl, rfl, rfl⟩
  have hi : i = kids.length := by have := of_decide_eq_false h5; omega
  subst hi
  obtain rfl := preEq_all h3' g2
  conv => whnf
  refine ⟨⟨rfl, ?_⟩⟩
  show [[D.lf (.bool true)]] = [[D.lf (.bool (eqX (⟨ps, keys, kids⟩ : NodeX) ⟨ps, keys, kids⟩))]]
  rw [eqX_refl]
theorem sameNode_ok : FnOk Try.prog 138 (cEq NodeX.ds) := fnOk_of fun x => fnX_at tab_ok (SOk.nil) mixed (fn := Try.f138) (code := body Try.f138) ⟨Try.func138, rfl, by kernel_rfl, by kernel_rfl, by kernel_rfl, by kernel_rfl⟩ (ev_sameNode x)
theorem treeP_read {N : List NodeX} (h : TreeP N) (hne : N ≠ []) : ∃ x d, Shp true d x ∧ PairsOkP x.all ∧ N = x.lay 0 ∧ Fit false N 0 x ∧ x.size = N.length ∧ d ≤ 7 ∧ x.deep = d := by
  obtain ⟨o, ho, rfl⟩ := h
  cases o with
  | none => exact absurd rfl hne
  | some x =>
    obtain ⟨d, hd⟩ := ho.shp
    obtain ⟨e1, e2⟩ := fit_all.2 (show x.lay 0 = x.lay 0 from rfl)
    exact ⟨x, d, hd, ho.ok, rfl, e1.noK, e2, hd.deep_le ho.ok.len, hd.deep⟩
theorem ev_sTreeOk : ∀ x, evFnX tab [(1000013, cGh), (1000016, cGh), (131, cSRoot), (135, (pureC FullX [(.rd, true), (.rd, false)] [false] (fun f => [subE f.t.n f.t.x, [.lf (.bool f.root)]]) (fun f => [[.lf (.bool (Tw.full f.root f.t.x))]]))), (136, cSDeep), (132, (pureC PrsS [(.rd, true)] [false] (fun p => [subE p.n p.x]) (fun p => [[.row 2 RngX.ds p.x.all]]))), (60, cPairsOk), (137, cSLay), (138, (cEq NodeX.ds))] cTreeOk Try.f57 (body Try.f57) x := by
  rintro ⟨N, f, hf, hN, hp⟩
  replace hN : N.length ≤ 1048576 := hN
  conv => whnf
  intro _
  conv => whnf
  refine br2 (fun h1 => ?_) (fun h1 => ?_)
  · have h1' : N = [] := by
      replace h1 : ((N.length : Int) == 0) = true := h1
      exact List.eq_nil_of_length_eq_zero (by simpa using h1)
    subst h1'
    conv => whnf
    exact ⟨⟨rfl, true, rfl, fun _ => ⟨none, ⟨trivial, by simp [allO], fun p hp => by simp [allO] at hp, by simp [allO, Srt]⟩, rfl⟩, fun _ => rfl⟩⟩
  have h1' : N ≠ [] := by
    replace h1 : ((N.length : Int) == 0) = false := h1
    rintro rfl; simp at h1
  have no : (∀ x d, Shp true d x → PairsOkP x.all → N = x.lay 0 → Fit false N 0 x → x.size = N.length → x.deep ≤ 13 → False) → (false = true ↔ TreeP N) := fun h =>
    ⟨fun e => (by cases e), fun e => by
      obtain ⟨x, d, a1, a2, a3, a4, a5, a6, a7⟩ := treeP_read e h1'
      exact (h x d a1 a2 a3 a4 a5 (by omega)).elim⟩
  conv => whnf
  intro _
  conv => whnf
  refine br2 (fun h2 => ?_) (fun h2 => ?_)
  · replace h2 : decide ((N.length : Int) > 400) = true := h2
    have h2' := of_decide_eq_true h2
    conv => whnf
    refine ⟨⟨rfl, false, rfl, no fun x d a1 a2 a3 a4 a5 _ => ?_⟩⟩
    have := a1.manyR.2.2.1
    have := a2.len
    omega
  replace h2 : decide ((N.length : Int) > 400) = false := h2
  have h2' := of_decide_eq_false h2
  conv => whnf
  refine ⟨⟨N, f, hf, hN, hp⟩, rfl, ?_⟩
  rintro _ _ ⟨rfl, o, ok, rfl, rs⟩
  replace rs : RootS N o ok := rs
  cases ok with
  | false =>
    have rno := rs.no rfl
    have out : false = true ↔ TreeP N := no fun x d _ _ _ a4 a5 a6 => rno x a4 a5 a6
    rcases o with _ | ⟨us, is⟩
    all_goals
      conv => whnf
      exact ⟨⟨rfl, false, rfl, out⟩⟩
  | true =>
  obtain ⟨⟨us, is⟩, rfl, hxf, hsz, hd⟩ := rs.yes rfl h1'
  have uniq : ∀ x, Fit false N 0 x → x = .mk us is := fun x h => Fit.uniq x _ 0 h hxf
  conv => whnf
  refine ⟨⟨⟨13, .mk us is, hd, by omega⟩, true⟩, rfl, ?_⟩
  rintro _ _ ⟨rfl, rfl⟩
  conv => whnf
  refine br2 (fun h3 => ?_) (fun h3 => ?_)
  · have h3' : Tw.full true (.mk us is) = false := by
      replace h3 : (!Tw.full true (.mk us is)) = true := h3
      simpa using h3
    conv => whnf
    refine ⟨⟨rfl, false, rfl, no fun x d a1 _ _ a4 _ _ => ?_⟩⟩
    rw [uniq x a4] at a1
    rw [a1.full.1] at h3'; cases h3'
  have h3' : Tw.full true (.mk us is) = true := by
    replace h3 : (!Tw.full true (.mk us is)) = false := h3
    simpa using h3
  conv => whnf
  refine ⟨⟨13, .mk us is, hd, by omega⟩, rfl, ?_⟩
  rintro _ _ ⟨rfl, v, rfl, v1, v2, v3⟩
  conv => whnf
  replace v2 : 0 ≤ v → Lev (Tw.mk us is).deep (.mk us is) ∧ v = ((Tw.mk us is).deep : Int) := v2
  replace v3 : v < 0 → ∀ d, ¬ Lev d (.mk us is) := v3
  refine br2 (fun h4 => ?_) (fun h4 => ?_)
  · have h4' : v < 0 := of_decide_eq_true h4
    conv => whnf
    refine ⟨⟨rfl, false, rfl, no fun x d a1 _ _ a4 _ _ => ?_⟩⟩
    rw [uniq x a4] at a1
    exact v3 h4' d a1.full.2
  have h4' : 0 ≤ v := by have h5 : ¬ v < 0 := of_decide_eq_false h4; omega
  obtain ⟨hlev, _⟩ := v2 h4'
  have hshp := Shp.of_full hlev h3'
  have hp4 := hshp.pairs4
  conv => whnf
  refine ⟨⟨13, .mk us is, hshp.prs, hd, by show (Tw.mk us is).all.length ≤ 4294967296; omega⟩, rfl, ?_⟩
  rintro _ _ ⟨rfl, rfl⟩
  conv => whnf
  refine ⟨(Tw.mk us is).all, rfl, ?_⟩
  rintro _ _ ⟨rfl, b, rfl, e⟩
  conv => whnf
  replace e : b = true ↔ PairsOkP (Tw.mk us is).all := e
  refine br2 (fun h5 => ?_) (fun h5 => ?_)
  · have h5' : ¬ PairsOkP (Tw.mk us is).all := fun h => by rw [e.2 h] at h5; cases h5
    conv => whnf
    refine ⟨⟨rfl, false, rfl, no fun x d _ a2 _ a4 _ _ => ?_⟩⟩
    rw [uniq x a4] at a2
    exact h5' a2
  have h5' : PairsOkP (Tw.mk us is).all := e.1 (by cases b <;> first | rfl | cases h5)
  conv => whnf
  refine ⟨3, NodeX, NodeX.ds, fun _ => rfl, ?_⟩
  conv => whnf
  refine ⟨⟨⟨13, .mk us is, true, (Tw.mk us is).deep, hshp, hd⟩, [], by show 0 + (Tw.mk us is).size ≤ 4194304; omega⟩, rfl, ?_⟩
  rintro _ _ ⟨rfl, rfl⟩
  conv => whnf
  intro _
  conv => whnf
  intro _
  conv => whnf
  have hA : ((Tw.mk us is).lay 0).length = N.length := by rw [Tw.lay_len]; exact hsz
  generalize hAe : (Tw.mk us is).lay 0 = A at *
  refine br2 (fun h6 => ?_) (fun h6 => ?_)
  · exfalso
    replace h6 : ((A.length : Int) != (N.length : Int)) = true := h6
    rw [hA] at h6; simp at h6
  conv => whnf
  intro _
  conv => whnf
  let S0 : Nat → Sl := fun i => [(48, .lf (.int .i64 i)), (47, .lf (.int .i64 A.length)), (5, .sl 624 none), (1, .pt 16 0 0)]
  let H0 : Hp := [(624, some (.row .own 3 NodeX.ds A)), (16, some (.arr true 1 [[.sl 0 none]])), (0, some (.row .lent 3 NodeX.ds N))]
  refine ⟨fun m s h => ∃ i : Nat, i ≤ A.length ∧ PreEq A N i ∧ m = A.length - i ∧ s = S0 i ∧ h = H0, A.length, [(624, 624), (16, 16), (0, 0)], S0 0, H0, ⟨rfl, ⟨rfl, rfl, rfl, rfl, trivial⟩, rfl, rfl, rfl, trivial⟩, ⟨0, by omega, fun j h => by omega, rfl, rfl, rfl⟩, ?_⟩
  rintro m _ _ ⟨i, g1, g2, rfl, rfl, rfl⟩
  conv => whnf
  refine br2 (fun h7 => ?_) (fun h7 => ?_)
  · have hi : i < A.length := by have := of_decide_eq_true h7; omega
    obtain ⟨y, hy⟩ := getL hi
    obtain ⟨z, hz⟩ := getL (l := N) (j := i) (by omega)
    conv => whnf
    refine ⟨[.foc 624 i 1000], ?_⟩
    conv => whnf
    refine ex2 y (by rw [nth_eq]; exact hy) ?_
    conv => whnf
    refine ⟨Int.natCast_nonneg _, ltI hy, ?_⟩
    conv => whnf
    refine ⟨Int.toNat_natCast i, ?_⟩
    conv => whnf
    refine ⟨Int.natCast_nonneg _, ltI hz, ?_⟩
    conv => whnf
    refine ex2 _ (nthI hz) ?_
    conv => whnf
    refine ⟨(y, z), rfl, ?_⟩
    rintro _ _ ⟨rfl, rfl⟩
    conv => whnf
    repeat ((first | refine rc_i rfl ?_ | refine rc_i (fun _ => rfl) ?_); conv => whnf)
    refine br2 (fun h8 => ?_) (fun h8 => ?_)
    · have h8' : y ≠ z := by
        replace h8 : (!eqX y z) = true := h8
        rw [Bool.not_eq_true', eqX_no] at h8; exact h8
      conv => whnf
      refine ⟨⟨rfl, false, rfl, no fun x d a1 a2 a3 a4 _ _ => ?_⟩⟩
      rw [uniq x a4, hAe] at a3
      rw [a3, hy] at hz
      exact h8' (Option.some.inj hz)
    · have h8' : y = z := by
        replace h8 : (!eqX y z) = false := h8
        rw [Bool.not_eq_false', eqX_iff] at h8; exact h8
      subst h8'
      conv => whnf
      refine ⟨[.unf 624], ?_⟩
      conv => whnf
      refine ⟨y, rfl, ?_⟩
      conv => whnf
      refine ⟨A.length - (i + 1), [(624, 624), (16, 16), (0, 0)], S0 (i + 1), H0, by omega, ⟨rfl, ⟨incI hi (by omega), rfl, rfl, rfl, trivial⟩, ?_, rfl, rfl, trivial⟩, i + 1, by omega, g2.snoc hy hz, rfl, rfl, rfl⟩
      show _ = some (Ob.row Kind.own 3 NodeX.ds A)
      have : A.set i y = A := by
        apply List.ext_getElem?
        intro j
        rw [List.getElem?_set]
        split
        · rename_i e; subst e; exact hy.symm
        · rfl
      show some (Ob.row Kind.own 3 NodeX.ds (A.set i y)) = _
      rw [this]
  · have hi : i = A.length := by have := of_decide_eq_false h7; omega
    subst hi
    have := preEq_all hA g2
    conv => whnf
    exact ⟨⟨rfl, true, rfl, fun _ => ⟨some (.mk us is), ⟨⟨_, hshp⟩, h5'⟩, this.symm.trans hAe.symm⟩, fun _ => rfl⟩⟩
theorem sTreeOk_ok : FnOk Try.prog 57 cTreeOk := fnOk_of fun x => fnX_at tab_ok (SOk.cons gh_ok (SOk.cons gh_ok (SOk.cons sRoot_ok (SOk.cons sFull_ok (SOk.cons sDeep_ok (SOk.cons sPairs_ok (SOk.cons sPairsOk_ok (SOk.cons sLay_ok (SOk.cons sameNode_ok SOk.nil))))))))) mixed (fn := Try.f57) (code := body Try.f57) ⟨Try.func57, rfl, by kernel_rfl, by kernel_rfl, by kernel_rfl, by kernel_rfl⟩ (ev_sTreeOk x)
theorem ev_sTreeAll : ∀ x, evFnX tab [(57, cTreeOk), (131, cSRoot), (132, (pureC PrsS [(.rd, true)] [false] (fun p => [subE p.n p.x]) (fun p => [[.row 2 RngX.ds p.x.all]])))] cTreeAll Try.f54 (body Try.f54) x := by
  rintro ⟨N, f, hf, hN, hp⟩
  replace hN : N.length ≤ 1048576 := hN
  conv => whnf
  refine ⟨⟨N, f, hf, hN, hp⟩, rfl, ?_⟩
  rintro _ _ ⟨rfl, b, rfl, e⟩
  conv => whnf
  replace e : b = true ↔ TreeP N := e
  refine br2 (fun h1 => ?_) (fun h1 => ?_)
  · have h1' : ¬ TreeP N := fun h => by rw [e.2 h] at h1; cases h1
    conv => whnf
    refine ⟨2, RngX, RngX.ds, fun _ => rfl, ?_⟩
    conv => whnf
    exact ⟨⟨rfl, [], rfl, fun o ho e => absurd ⟨o, ho, e⟩ h1', fun _ => rfl⟩⟩
  have h1' : TreeP N := e.1 (by cases b <;> first | rfl | cases h1)
  conv => whnf
  refine ⟨⟨N, f, hf, hN, hp⟩, rfl, ?_⟩
  rintro _ _ ⟨rfl, o, ok, rfl, rs⟩
  replace rs : RootS N o ok := rs
  have fin : ∀ x : Tw, (N = [] → x = .mk [] []) → (N ≠ [] → Fit false N 0 x) → AllR N x.all := by
    intro x g1 g2
    refine ⟨fun o ho e => ?_, fun h => absurd h1' h⟩
    by_cases hne : N = []
    · rw [g1 hne]
      rw [hne] at e
      rw [layO_nil.1 e.symm]; rfl
    · obtain ⟨y, d, a1, a2, a3, a4, a5, a6, a7⟩ := treeP_read h1' hne
      have h2 := Fit.uniq x y 0 (g2 hne) a4
      rw [h2]
      rw [a3] at e
      rw [← layO_inj (o := some y) e]; rfl
  obtain ⟨us, is, rfl, rfl, g1, g2, g3, g4⟩ : ∃ us is, o = some (.mk us is) ∧ ok = true ∧ (N = [] → Tw.mk us is = .mk [] []) ∧ (N ≠ [] → Fit false N 0 (.mk us is)) ∧ (Tw.mk us is).deep ≤ 13 ∧ (Tw.mk us is = .mk [] [] ∨ ∃ b d, Shp b d (.mk us is)) := by
    by_cases hne : N = []
    · obtain ⟨rfl, rfl⟩ := rs.emp hne
      exact ⟨[], [], rfl, rfl, fun _ => rfl, fun h => absurd hne h, by simp [Tw.deep, Tw.deeps], .inl rfl⟩
    · obtain ⟨y, d, a1, a2, a3, a4, a5, a6, a7⟩ := treeP_read h1' hne
      cases ok with
      | false => exact absurd (show y.deep ≤ 13 by omega) (rs.no rfl y a4 a5)
      | true =>
        obtain ⟨x, rfl, b1, b2, b3⟩ := rs.yes rfl hne
        have := Fit.uniq x y 0 b1 a4
        subst this
        obtain ⟨us, is⟩ := x
        exact ⟨us, is, rfl, rfl, fun h => absurd h hne, fun _ => b1, b3, .inr ⟨_, _, a1⟩⟩
  have hlen : (Tw.mk us is).all.length ≤ 4294967296 := by
    obtain ⟨o', ho', e'⟩ := h1'
    rw [(fin _ g1 g2).yes o' ho' e']
    have := ho'.ok.len
    omega
  conv => whnf
  refine ⟨⟨13, .mk us is, prs_of g4, g3, hlen⟩, rfl, ?_⟩
  rintro _ _ ⟨rfl, rfl⟩
  conv => whnf
  exact ⟨⟨rfl, _, rfl, fin _ g1 g2⟩⟩
theorem sTreeAll_ok : FnOk Try.prog 54 cTreeAll := fnOk_of fun x => fnX_at tab_ok (SOk.cons sTreeOk_ok (SOk.cons sRoot_ok (SOk.cons sPairs_ok SOk.nil))) mixed (fn := Try.f54) (code := body Try.f54) ⟨Try.func54, rfl, by kernel_rfl, by kernel_rfl, by kernel_rfl, by kernel_rfl⟩ (ev_sTreeAll x)
end Go.Vm
namespace Go.Vm
open Go.Proofs
set_option maxRecDepth 100000
set_option linter.unusedVariables false
set_option linter.unusedSimpArgs false

/-- A result that is read alone. -/
def keepC (X : Type) (params : List (Mode × Bool)) (res : List Bool) (ins : X → List (List D)) (R : X → List (List D) → Prop) : Con :=
  { X := X, params := params, res := res, resOwn := false, ins := ins, post := fun x outs r => outs = [] ∧ R x r }
/-- A node that may be too large: one or two. -/
def splitT : Tw → List Tw
  | .mk ps [] => two (splitP ps)
  | .mk _ ks => two (splitK ks)
theorem cut3 {α : Type} (l : List α) : (l.drop 3).take ((l.length : Int) - 3).toNat = l.drop 3 := List.take_of_length_le (by rw [List.length_drop]; omega)
theorem subE_node {n : Nat} {ps : List RngX} {ks : List Tw} : subE (n + 1) (.mk ps ks) = [.lf (.bool ks.isEmpty), .row 2 RngX.ds ps, .row 3 (subE n) ks] := rfl
structure SplX where
  n : Nat
  x : Tw
  h : x.ks = [] ∨ x.ps = []
  hl : x.ps.length ≤ 4294967296 ∧ x.ks.length ≤ 4294967296
theorem ev_sSplit : ∀ x, evFnX tab [] (keepC SplX [(.keep, true)] [false] (fun t => [subE (t.n + 1) t.x]) (fun t r => r = [[.row 3 (subE (t.n + 1)) (splitT t.x)]])) Try.f198 (body Try.f198) x := by
  rintro ⟨n, ⟨ps, ks⟩, h, hl1, hl2⟩
  replace h : ks = [] ∨ ps = [] := h
  replace hl1 : ps.length ≤ 4294967296 := hl1
  replace hl2 : ks.length ≤ 4294967296 := hl2
  cases ks with
  | nil =>
    conv => whnf
    intro _
    conv => whnf
    refine br2 (fun h1 => ?_) (fun h1 => ?_)
    · have h1' : 4 < ps.length := by
        replace h1 : decide ((ps.length : Int) > 4) = true := h1
        have := of_decide_eq_true h1; omega
      conv => whnf
      refine ⟨by decide, by decide, (show (3 : Int) ≤ (ps.length : Int) by omega), ?_⟩
      conv => whnf
      refine ⟨by decide, (show (3 : Int) ≤ (ps.length : Int) by omega), Int.le_refl _, ?_⟩
      conv => whnf
      refine ⟨3, Tw, subE n, subE_len n, ?_⟩
      conv => whnf
      refine ⟨3, Tw, subE n, subE_len n, ?_⟩
      conv => whnf
      refine ⟨Tw, subE (n + 1), [.mk (ps.take 3) [], .mk (ps.drop 3) []], subE_len _, ?_, ?_⟩
      · show [[D.lf (.bool true), D.row 2 RngX.ds (ps.take 3), D.row 3 (subE n) []], [D.lf (.bool true), D.row 2 RngX.ds (ps.drop 3), D.row 3 (subE n) []]] = [[D.lf (.bool true), D.row 2 RngX.ds (ps.take 3), D.row 3 (subE n) []], [D.lf (.bool true), D.row 2 RngX.ds ((ps.drop 3).take ((ps.length : Int) - 3).toNat), D.row 3 (subE n) []]]
        rw [cut3]
      conv => whnf
      refine ⟨⟨rfl, ?_⟩⟩
      show [[D.row 3 (subE (n + 1)) _]] = [[D.row 3 (subE (n + 1)) (two (splitP ps))]]
      unfold splitP
      rw [if_neg (by omega)]; rfl
    · have h1' : ps.length ≤ 4 := by
        replace h1 : decide ((ps.length : Int) > 4) = false := h1
        have := of_decide_eq_false h1; omega
      conv => whnf
      intro _
      conv => whnf
      refine ⟨Tw, subE (n + 1), [.mk ps []], subE_len _, rfl, ?_⟩
      conv => whnf
      refine ⟨⟨rfl, ?_⟩⟩
      show [[D.row 3 (subE (n + 1)) _]] = [[D.row 3 (subE (n + 1)) (two (splitP ps))]]
      unfold splitP
      rw [if_pos h1']; rfl
  | cons k ks =>
    obtain rfl : ps = [] := by rcases h with h | h; cases h; exact h
    conv => whnf
    intro _
    conv => whnf
    have hn : (k :: ks).length = ks.length + 1 := rfl
    refine br2 (fun h1 => ?_) (fun h1 => ?_)
    · have h1' : 4 < (k :: ks).length := by
        replace h1 : decide (((k :: ks).length : Int) > 4) = true := h1
        have := of_decide_eq_true h1; omega
      conv => whnf
      refine ⟨by decide, by decide, (show (3 : Int) ≤ ((k :: ks).length : Int) by omega), ?_⟩
      conv => whnf
      refine ⟨by decide, (show (3 : Int) ≤ ((k :: ks).length : Int) by omega), Int.le_refl _, ?_⟩
      conv => whnf
      refine ⟨2, RngX, RngX.ds, fun _ => rfl, ?_⟩
      conv => whnf
      refine ⟨2, RngX, RngX.ds, fun _ => rfl, ?_⟩
      conv => whnf
      refine ⟨Tw, subE (n + 1), [.mk [] ((k :: ks).take 3), .mk [] ((k :: ks).drop 3)], subE_len _, ?_, ?_⟩
      · have e : ((k :: ks).drop 3).isEmpty = false := by
          cases e : (k :: ks).drop 3 with
          | nil => have := congrArg List.length e; rw [List.length_drop] at this; simp at this; omega
          | cons => rfl
        show [[D.lf (.bool false), D.row 2 RngX.ds [], D.row 3 (subE n) ((k :: ks).take 3)], [D.lf (.bool ((k :: ks).drop 3).isEmpty), D.row 2 RngX.ds [], D.row 3 (subE n) ((k :: ks).drop 3)]] = [[D.lf (.bool false), D.row 2 RngX.ds [], D.row 3 (subE n) ((k :: ks).take 3)], [D.lf (.bool false), D.row 2 RngX.ds [], D.row 3 (subE n) (((k :: ks).drop 3).take (((k :: ks).length : Int) - 3).toNat)]]
        rw [cut3, e]
      conv => whnf
      refine ⟨⟨rfl, ?_⟩⟩
      show [[D.row 3 (subE (n + 1)) _]] = [[D.row 3 (subE (n + 1)) (two (splitK (k :: ks)))]]
      unfold splitK
      rw [if_neg (by omega)]; rfl
    · have h1' : (k :: ks).length ≤ 4 := by
        replace h1 : decide (((k :: ks).length : Int) > 4) = false := h1
        have := of_decide_eq_false h1; omega
      conv => whnf
      refine ⟨Tw, subE (n + 1), [.mk [] (k :: ks)], subE_len _, rfl, ?_⟩
      conv => whnf
      refine ⟨⟨rfl, ?_⟩⟩
      show [[D.row 3 (subE (n + 1)) _]] = [[D.row 3 (subE (n + 1)) (two (splitK (k :: ks)))]]
      unfold splitK
      rw [if_pos h1']; rfl
theorem sSplit_ok : FnOk Try.prog 198 (keepC SplX [(.keep, true)] [false] (fun t => [subE (t.n + 1) t.x]) (fun t r => r = [[.row 3 (subE (t.n + 1)) (splitT t.x)]])) := fnOk_of fun x => fnX_at tab_ok (SOk.nil) mixed (fn := Try.f198) (code := body Try.f198) ⟨Try.func198, rfl, by kernel_rfl, by kernel_rfl, by kernel_rfl, by kernel_rfl⟩ (ev_sSplit x)
theorem le_strLt {a b : ByteArray} (h : (strLt a b || strEq a b) = true) : strLt b a = false := by
  rw [Bool.or_eq_true] at h
  rcases h with h | h
  · exact lt_asym h
  · rw [strEq_iff] at h; subst h; exact strLt_irrefl _
theorem nle_strLt {a b : ByteArray} (h : (strLt a b || strEq a b) = false) : strLt b a = true := by
  rw [Bool.or_eq_false_iff] at h
  cases e : strLt b a with
  | true => rfl
  | false =>
    have := strLt_tri h.1 e
    subst this
    rw [strEq_refl] at h; cases h.2
structure WayX where
  n : Nat
  ks : List Tw
  d : Nat
  h : ∀ k ∈ ks, Shp false d k
  hn : d ≤ n
  h4 : ks.length ≤ 4
  h1 : 1 ≤ ks.length
  key : ByteArray
def cWay : Con := relC WayX [(.rd, true), (.rd, false)] [false] (fun t => [subE (t.n + 1) (.mk [] t.ks), [.lf (.string t.key)]]) (fun t r => ∃ i : Nat, r = [[.lf (.int .i64 i)]] ∧ Way t.ks t.key i)
theorem ev_sWay : ∀ x, evFnX tab [(189, (pureC TwX [(.rd, true)] [false] (fun t => [subE t.n t.x]) (fun t => [[.lf (.string t.x.least)]])))] cWay Try.f193 (body Try.f193) x := by
  rintro ⟨n, ks, d, h, hn, h4, h1, key⟩
  replace h : ∀ k ∈ ks, Shp false d k := h
  replace hn : d ≤ n := hn
  replace h4 : ks.length ≤ 4 := h4
  replace h1 : 1 ≤ ks.length := h1
  obtain ⟨n, rfl⟩ : ∃ m, n = m + 1 := by
    obtain ⟨k, hk⟩ := getL (l := ks) (j := 0) (by omega)
    have := (h k (List.mem_of_getElem? hk)).pos
    exact ⟨n - 1, by omega⟩
  conv => whnf
  let S0 : Nat → Nat → Sl := fun i a => [(6, .lf (.int .i64 i)), (5, .lf (.int .i64 a)), (1, .lf (.string key)), (2, .pt 32 0 0)]
  let H0 : Hp := [(32, some (.arr true 3 [[.lf (.bool ks.isEmpty), .sl 0 none, .sl 1 none]])), (1, some (.row .lent 3 (subE (n + 1)) ks)), (0, some (.row .lent 2 RngX.ds []))]
  refine ⟨fun m s h => ∃ i a : Nat, 1 ≤ i ∧ i ≤ ks.length ∧ a < i ∧ (a = 0 ∨ ∃ c, ks[a]? = some c ∧ strLt key c.least = false) ∧ (∀ j c, a < j → j < i → ks[j]? = some c → strLt key c.least = true) ∧ m = ks.length - i ∧ s = S0 i a ∧ h = H0,
    ks.length - 1, [(32, 32), (1, 1), (0, 0)], S0 1 0, H0, ⟨rfl, ⟨rfl, rfl, rfl, rfl, trivial⟩, rfl, rfl, rfl, trivial⟩, ⟨1, 0, Nat.le_refl _, h1, by omega, .inl rfl, fun j c h2 h3 => by omega, rfl, rfl, rfl⟩, ?_⟩
  rintro m _ _ ⟨i, a, g1, g2, g3, g4, g5, rfl, rfl, rfl⟩
  conv => whnf
  intro _
  conv => whnf
  refine br2 (fun h5 => ?_) (fun h5 => ?_)
  · have hi : i < ks.length := by have := of_decide_eq_true h5; omega
    obtain ⟨y, hy⟩ := getL hi
    have hys := h y (List.mem_of_getElem? hy)
    have step : ∀ {s' : Sl} {h' : Hp} (a' : Nat), a' < i + 1 → (a' = 0 ∨ ∃ c, ks[a']? = some c ∧ strLt key c.least = false) → (∀ j c, a' < j → j < i + 1 → ks[j]? = some c → strLt key c.least = true) → Le [(32, 32), (1, 1), (0, 0)] (S0 (i + 1) a') H0 s' h' →
        ∃ m' ρ s'' h'', m' < ks.length - i ∧ Le ρ s'' h'' s' h' ∧ ∃ i a : Nat, 1 ≤ i ∧ i ≤ ks.length ∧ a < i ∧ (a = 0 ∨ ∃ c, ks[a]? = some c ∧ strLt key c.least = false) ∧ (∀ j c, a < j → j < i → ks[j]? = some c → strLt key c.least = true) ∧ m' = ks.length - i ∧ s'' = S0 i a ∧ h'' = H0 := fun a' q1 q2 q3 hle =>
      ⟨ks.length - (i + 1), _, _, _, by omega, hle, i + 1, a', by omega, by omega, q1, q2, q3, rfl, rfl, rfl⟩
    obtain ⟨us, is⟩ := y
    conv => whnf
    refine ⟨Int.natCast_nonneg _, ltI hy, ?_⟩
    conv => whnf
    refine ex2 _ (nthI hy) ?_
    conv => whnf
    refine ⟨⟨n + 1, .mk us is, false, d, hys, hn⟩, rfl, ?_⟩
    rintro _ _ ⟨rfl, rfl⟩
    conv => whnf
    refine br2 (fun h6 => ?_) (fun h6 => ?_)
    · have h6' := le_strLt h6
      conv => whnf
      exact step i (by omega) (.inr ⟨_, hy, h6'⟩) (fun j c q1 q2 => by omega) ⟨rfl, ⟨incI hi (by omega), rfl, rfl, rfl, trivial⟩, rfl, rfl, rfl, trivial⟩
    · have h6' := nle_strLt h6
      conv => whnf
      refine step a (by omega) g4 (fun j c q1 q2 q3 => ?_) ⟨rfl, ⟨incI hi (by omega), rfl, rfl, rfl, trivial⟩, rfl, rfl, rfl, trivial⟩
      rcases Nat.lt_or_ge j i with q | q
      · exact g5 j c q1 q q3
      · obtain rfl : j = i := by omega
        rw [hy] at q3; cases q3; exact h6'
  · have hi : i = ks.length := by have := of_decide_eq_false h5; omega
    subst hi
    conv => whnf
    exact ⟨⟨rfl, a, rfl, g3, g4, fun c hc => g5 (a + 1) c (by omega) (List.getElem?_eq_some_iff.1 hc).1 hc⟩⟩
theorem sWay_ok : FnOk Try.prog 193 cWay := fnOk_of fun x => fnX_at tab_ok (SOk.cons sLeast_ok SOk.nil) mixed (fn := Try.f193) (code := body Try.f193) ⟨Try.func193, rfl, by kernel_rfl, by kernel_rfl, by kernel_rfl, by kernel_rfl⟩ (ev_sWay x)
end Go.Vm
namespace Go.Vm
open Go.Proofs
set_option maxRecDepth 100000
set_option linter.unusedVariables false
set_option linter.unusedSimpArgs false

structure KidX where
  n : Nat
  ps : List RngX
  ks : List Tw
  d : Nat
  h : ∀ k ∈ ks, Shp false d k
  hn : d ≤ n
  h4 : ks.length ≤ 5
  h1 : 1 ≤ ks.length
  key : ByteArray
def cKid : Con := relC KidX [(.rd, false), (.rd, false)] [false] (fun t => [twE (t.n + 1) (.mk t.ps t.ks), [.lf (.string t.key)]]) (fun t r => ∃ i : Nat, r = [[.lf (.int .i64 i)]] ∧ Way t.ks t.key i)
theorem ev_kid : ∀ x, evFnX tab [(219, cLeast)] cKid Try.f223 (body Try.f223) x := by
  rintro ⟨n, ps, ks, d, h, hn, h4, h1, key⟩
  replace h : ∀ k ∈ ks, Shp false d k := h
  replace hn : d ≤ n := hn
  replace h4 : ks.length ≤ 5 := h4
  replace h1 : 1 ≤ ks.length := h1
  obtain ⟨n, rfl⟩ : ∃ m, n = m + 1 := by
    obtain ⟨k, hk⟩ := getL (l := ks) (j := 0) (by omega)
    have := (h k (List.mem_of_getElem? hk)).pos
    exact ⟨n - 1, by omega⟩
  conv => whnf
  let S0 : Nat → Sl := fun i => [(5, .lf (.int .i64 i)), (1, .lf (.string key)), (0, .pt 0 0 0)]
  let H0 : Hp := [(0, some (.arr false 2 [[.sl 1 none, .sl 2 none]])), (1, some (.row .lent 2 RngX.ds ps)), (2, some (.row .lent 1 (twE (n + 1)) ks))]
  refine ⟨fun m s h => ∃ i : Nat, i < ks.length ∧ (i = 0 ∨ ∃ c, ks[i]? = some c ∧ strLt key c.least = false) ∧ m = ks.length - i ∧ s = S0 i ∧ h = H0, ks.length, [(0, 0), (1, 1), (2, 2)], S0 0, H0, ⟨rfl, ⟨rfl, rfl, rfl, trivial⟩, rfl, rfl, rfl, trivial⟩, ⟨0, by omega, .inl rfl, by omega, rfl, rfl⟩, ?_⟩
  rintro m _ _ ⟨i, g1, g2, rfl, rfl, rfl⟩
  have hw : IntKind.i64.wrap ((i : Int) + 1) = ((i + 1 : Nat) : Int) := by rw [w64 (by omega) (by omega)]; omega
  conv => whnf
  intro _
  conv => whnf
  refine br2 (fun h5 => ?_) (fun h5 => ?_)
  · have hi : i + 1 < ks.length := by
      replace h5 : decide (IntKind.i64.wrap ((i : Int) + 1) < (ks.length : Int)) = true := h5
      rw [hw] at h5
      have := of_decide_eq_true h5; omega
    obtain ⟨y, hy⟩ := getL hi
    have hys := h y (List.mem_of_getElem? hy)
    obtain ⟨us, is⟩ := y
    conv => whnf
    refine ⟨(ixE hw hy).1, (ixE hw hy).2, ?_⟩
    conv => whnf
    refine ex2 _ (nthE hw hy) ?_
    conv => whnf
    refine ⟨⟨n + 1, .mk us is, false, d, hys, hn⟩, rfl, ?_⟩
    rintro _ _ ⟨rfl, rfl⟩
    conv => whnf
    refine br2 (fun h6 => ?_) (fun h6 => ?_)
    · have h6' := le_strLt h6
      conv => whnf
      refine ⟨ks.length - (i + 1), [(0, 0), (1, 1), (2, 2)], S0 (i + 1), H0, by omega, ⟨rfl, ⟨?_, rfl, rfl, trivial⟩, rfl, rfl, rfl, trivial⟩, i + 1, hi, .inr ⟨_, hy, h6'⟩, rfl, rfl, rfl⟩
      show V.lf (.int .i64 (IntKind.i64.wrap ((i : Int) + 1))) = _
      rw [hw]
    · have h6' := nle_strLt h6
      conv => whnf
      refine ⟨⟨rfl, i, rfl, g1, g2, fun c hc => ?_⟩⟩
      replace hc : ks[i + 1]? = some c := hc
      rw [hy] at hc; cases hc; exact h6'
  · have hi : ¬ i + 1 < ks.length := by
      replace h5 : decide (IntKind.i64.wrap ((i : Int) + 1) < (ks.length : Int)) = false := h5
      rw [hw] at h5
      have := of_decide_eq_false h5; omega
    conv => whnf
    refine ⟨⟨rfl, i, rfl, g1, g2, fun c hc => ?_⟩⟩
    exact absurd (List.getElem?_eq_some_iff.1 hc).1 hi
theorem kid_ok : FnOk Try.prog 223 cKid := fnOk_of fun x => fnX_at tab_ok (SOk.cons least_ok SOk.nil) mixed (fn := Try.f223) (code := body Try.f223) ⟨Try.func223, rfl, by kernel_rfl, by kernel_rfl, by kernel_rfl, by kernel_rfl⟩ (ev_kid x)
end Go.Vm
namespace Go.Vm
set_option linter.unusedVariables false
set_option linter.unusedSimpArgs false
def insV {β : Type _} (i : Nat) (vals : Nat → Nat → β) (pv : Nat → β) (j f : Nat) : β := if j < i then vals j f else if j = i then pv f else vals (j - 1) f
def insAt {α : Type} (l : List α) (i : Nat) (p : α) : List α := l.take i ++ p :: l.drop i
theorem insAt_len {α : Type} (l : List α) (i : Nat) (p : α) : (insAt l i p).length = l.length + 1 := by unfold insAt; simp; omega
theorem insAt_get {α : Type} {l : List α} {i : Nat} (p : α) (hi : i ≤ l.length) (j : Nat) : (insAt l i p)[j]? = if j < i then l[j]? else if j = i then some p else l[j - 1]? := by
  unfold insAt
  have hl : (l.take i).length = i := by rw [List.length_take]; omega
  by_cases h1 : j < i
  · rw [if_pos h1, List.getElem?_append_left (by omega), List.getElem?_take, if_pos h1]
  · rw [if_neg h1, List.getElem?_append_right (by omega), hl]
    by_cases h2 : j = i
    · subst h2; rw [if_pos rfl, Nat.sub_self]; rfl
    · rw [if_neg h2, show j - i = (j - 1 - i) + 1 by omega, List.getElem?_cons_succ, List.getElem?_drop]
      congr 1; omega
theorem dat_ins {α : Type} {enc : α → List D} {l : List α} {i : Nat} (p : α) (hi : i ≤ l.length) (j f : Nat) : dat enc (insAt l i p) j f = insV i (fun j f => dat enc l j f) (fun f => (enc p).getD f .dead) j f := by
  unfold insV
  have h := insAt_get p hi j
  by_cases h1 : j < i
  · rw [if_pos h1] at h ⊢; unfold dat; rw [h]
  · rw [if_neg h1] at h ⊢
    by_cases h2 : j = i
    · rw [if_pos h2] at h ⊢; unfold dat; rw [h]
    · rw [if_neg h2] at h ⊢; unfold dat; rw [h]
/-- A row with one more: its elements' data lie as they lay. -/
theorem ins_own {w w' : World} {Kp : Nat → Prop} {sz : Nat} {α : Type} {enc : α → List D} {l : List α} {p : α} {i : Nat} (hz : ∀ a, (enc a).length = sz) (hi : i ≤ l.length) (hm : l.length + 1 ≤ 9223372036854775807)
    {vals : Nat → Nat → Value} {G : Nat → Nat → Nat → Prop} {pv : Nat → Value} {Gp : Nat → Nat → Prop}
    (g1 : ∀ i f, i < l.length → f < sz → Own w Kp (G i f) (vals i f) (dat enc l i f))
    (g2 : ∀ i f j g, i < l.length → f < sz → j < l.length → g < sz → (i ≠ j ∨ f ≠ g) → ∀ x, G i f x → ¬ G j g x)
    (p1 : ∀ f, f < sz → Own w Kp (Gp f) (pv f) ((enc p).getD f .dead))
    (p2 : ∀ f g, f < sz → g < sz → f ≠ g → ∀ x, Gp f x → ¬ Gp g x)
    (gp : ∀ i f g, i < l.length → f < sz → g < sz → ∀ x, G i f x → ¬ Gp g x)
    {b o c : Nat} (hb : b < w'.heap.size) (hc : l.length + 1 ≤ c)
    (hcap : ∀ j, j < c * sz → (∃ x, w'.cell? ⟨b, o + j, none⟩ = some x) ∧ w'.frozen? ⟨b, o + j, none⟩ = false)
    (hv : ∀ j f, j < l.length + 1 → f < sz → w'.cell? ⟨b, o + (j * sz + f), none⟩ = some (insV i vals pv j f))
    (hbG : ∀ i f, i < l.length → f < sz → ¬ G i f b) (hbp : ∀ f, f < sz → ¬ Gp f b)
    (hw : ∀ x, (∃ i f, i < l.length ∧ f < sz ∧ G i f x) ∨ (∃ f, f < sz ∧ Gp f x) ∨ Kp x → w'.heap[x]? = w.heap[x]?) :
    Own w' Kp (fun x => x = b ∨ ∃ j f, j < l.length + 1 ∧ f < sz ∧ insV i G Gp j f x) (.slice (some ⟨b, o, none⟩) (l.length + 1) c) (.row sz enc (insAt l i p)) := by
  refine .row (insV i vals pv) (insV i G Gp) (insAt_len l i p).symm hb hc hm hcap hz hv (fun j f hj hf => ?_) (fun j f k g hj hf hk hg hne x => ?_) (fun j f hj hf => ?_) fun x => Iff.rfl
  · rw [dat_ins p hi]
    unfold insV
    split
    · exact (g1 j f (by omega) hf).frame (fun x hx => hw x (.inl ⟨j, f, by omega, hf, hx⟩)) fun x hx => hw x (.inr (.inr hx))
    · split
      · exact (p1 f hf).frame (fun x hx => hw x (.inr (.inl ⟨f, hf, hx⟩))) fun x hx => hw x (.inr (.inr hx))
      · exact (g1 (j - 1) f (by omega) hf).frame (fun x hx => hw x (.inl ⟨j - 1, f, by omega, hf, hx⟩)) fun x hx => hw x (.inr (.inr hx))
  · unfold insV
    split
    · split
      · exact g2 j f k g (by omega) hf (by omega) hg hne x
      · split
        · exact gp j f g (by omega) hf hg x
        · exact g2 j f (k - 1) g (by omega) hf (by omega) hg (.inl (by omega)) x
    · split
      · split
        · exact fun h h' => gp k g f (by omega) hg hf x h' h
        · split
          · exact p2 f g hf hg (by omega) x
          · exact fun h h' => gp (k - 1) g f (by omega) hg hf x h' h
      · split
        · exact g2 (j - 1) f k g (by omega) hf (by omega) hg (.inl (by omega)) x
        · split
          · exact gp (j - 1) f g (by omega) hf hg x
          · exact g2 (j - 1) f (k - 1) g (by omega) hf (by omega) hg (by omega) x
  · unfold insV
    split
    · exact hbG j f (by omega) hf
    · split
      · exact hbp f hf
      · exact hbG (j - 1) f (by omega) hf
end Go.Vm
namespace Go.Vm
open Go.Proofs Go.RowKit
set_option linter.unusedVariables false
set_option linter.unusedSimpArgs false
theorem part1 {D1 : (Nat → Prop) → Value → D → Prop} {v : Value} {d : D} {F : Nat → Prop} {cs : List Value} (hc : CellsOf false v cs) (h : Part D1 cs [d] F) : D1 F v d := by
  obtain ⟨h1, G, h2, h3, h4⟩ := h
  have e : cs = [v] := hc.1
  subst e
  have := h2 0 (by simp)
  have eF : F = G 0 := funext fun x => propext ⟨fun hx => by
    obtain ⟨f, hf, hx⟩ := (h4 x).1 hx
    obtain rfl : f = 0 := by simp at hf; omega
    exact hx, fun hx => (h4 x).2 ⟨0, by simp, hx⟩⟩
  rw [eF]; exact this
theorem args_ins {w : World} {R Kp : Nat → Prop} {d1 d3 : D} {a : Value} : ∀ {args : List Value} {Fs : List (Nat → Prop)}, ArgsR w R Kp [(.take, false), (.rd, false), (.take, false)] [[d1], [.lf a], [d3]] args Fs →
    ∃ v1 v3 F1 F2 F3, args = [v1, a, v3] ∧ Fs = [F1, F2, F3] ∧ Own w Kp F1 v1 d1 ∧ (∀ x, ¬ F2 x) ∧ Own w Kp F3 v3 d3
  | [x, y, z], [F, G, H], h => by
    obtain ⟨⟨cs, hc, hp⟩, ⟨cs', hc', hp'⟩, ⟨cs2, hc2, hp2⟩, _⟩ := h
    have h1 : Own w Kp F x d1 := part1 hc hp
    have h2 : Ro w R y (.lf a) ∧ ∀ x, ¬ G x := part1 (D1 := ArgD .rd w R Kp) hc' hp'
    have h3 : Own w Kp H z d3 := part1 hc2 hp2
    obtain ⟨e1, e2⟩ := h2
    obtain rfl : y = a := (Ro.lf_inv e1).1
    exact ⟨x, z, F, G, H, rfl, rfl, h1, e2, h3⟩
  | [], _, h => h.elim
  | [_], [], h => h.elim
  | [_], _ :: _, h => h.2.elim
  | _ :: _ :: _, [], h => h.elim
  | [_, _], [_], h => h.2.elim
  | [_, _], _ :: _ :: _, h => h.2.2.elim
  | _ :: _ :: _ :: _, [_], h => h.2.elim
  | _ :: _ :: _ :: _, [_, _], h => h.2.2.elim
  | _ :: _ :: _ :: _ :: _, _ :: _ :: _ :: _, h => h.2.2.2.elim
  | [_, _, _], _ :: _ :: _ :: _ :: _, h => h.2.2.2.elim
structure InsX (α : Type) where
  l : List α
  i : Nat
  p : α
  hi : i ≤ l.length
  hl : l.length ≤ 1000000
def cIns {α : Type} (sz : Nat) (enc : α → List D) : Con := { X := InsX α, params := [(.take, false), (.rd, false), (.take, false)], res := [false], resOwn := true, ins := fun x => [[.row sz enc x.l], [.lf (.int .i64 x.i)], [.row sz enc [x.p]]], post := fun x outs r => outs = [] ∧ r = [[.row sz enc (insAt x.l x.i x.p)]] }
/-- An outcome of one result, and nothing given back. -/
theorem out_one {c : Con} {x : c.X} {w w' : World} {args : List Value} {Kp : Nat → Prop} {Fs : List (Nat → Prop)} {v : Value} {d : D} {H : Nat → Prop} (hres : c.res = [false]) (hown : c.resOwn = true) (hmut : mutsW c.params args = [])
    (hpost : c.post x [] [[d]]) (hsh : Shape w w') (hfr : ∀ b, b < w.heap.size → ¬ AnyF Fs b → w'.heap[b]? = w.heap[b]?) (ho : Own w' Kp H v d) (hsrc : ∀ x, H x → w.heap.size ≤ x ∨ AnyF Fs x) (hcl : ∀ x, H x → Cl w' x) :
    ∃ outs res N rs Hs Os, Out c x w args Kp Fs v w' outs res N rs Hs Os := by
  refine ⟨[], [[d]], fun _ => False, [v], [H], [], hpost, hsh, hfr, fun _ h => h.elim, ?_, rfl, ?_, ?_, ?_, ?_⟩
  · rw [hres, hown]
    refine ⟨⟨[v], ⟨rfl, ho.one⟩, rfl, fun _ => H, fun f hf => ?_, fun f g hf hg hne => ?_, fun x => ⟨fun hx => ⟨0, by simp, hx⟩, fun ⟨_, _, hx⟩ => hx⟩⟩, trivial⟩
    · obtain rfl : f = 0 := by simp at hf; omega
      exact ho.mono fun _ h => .inl h
    · exfalso; simp at hf hg; omega
  · rw [hmut]; trivial
  · exact List.pairwise_singleton _ _
  · rintro y ⟨F, hF, hy⟩
    simp at hF
    subst hF
    exact ⟨ho.lt y hy, fun h => h, hsrc y hy⟩
  · rintro y ⟨F, hF, hy⟩
    simp at hF
    subst hF
    exact hcl y hy
end Go.Vm
namespace Go.Vm
open Go.Proofs Go.RowKit Go.Lib
set_option linter.unusedVariables false
set_option linter.unusedSimpArgs false
variable {P : Program}
theorem run_copyN (w : World) (dT sT ty elem : TypeId) (b o dLen dCap : Nat) (a : Addr) (sLen sCap sz k : Nat) (cs : List Value)
    (hu : P.underlying dT = some (.slice elem)) (hs : (P.info? elem).map (·.size) = some sz) (hk : k = Nat.min sLen dLen) (hn : cs.length = k * sz)
    (hsrc : ∀ j v, cs[j]? = some v → w.cell? (a.add j) = some v) (hc : ∀ j, j < cs.length → (w.cell? ⟨b, o + j, none⟩).isSome = true) (hf : ∀ j, j < cs.length → w.frozen? ⟨b, o + j, none⟩ = false) (h1 : ∀ v ∈ cs, v.oneCell' = true) :
    (Builtin.copy_ #[dT, sT] ty #[.slice (some ⟨b, o, none⟩) dLen dCap, .slice (some a) sLen sCap]).run P w = .ok (goInt k) (w.setCells b o cs) := by
  have hl := run_loadCells_list (P := P) w a cs hsrc
  have hst := run_storeCells_cells (P := P) b o cs 0 w (by simpa using hc) (by simpa using hf) h1
  cases hq : P.info? elem with
  | none => simp [hq] at hs
  | some i =>
    have hi : i.size = sz := by simpa [hq] using hs
    rw [hn] at hl
    simp [Builtin.copy_, run_underlying hu, Builtin.lenOf, Builtin.firstCells, sizeOf, typeInfo, hq, hi, ← hk, hl, hst]
end Go.Vm
namespace Go.Vm
open Go.Proofs Go.RowKit
set_option linter.unusedVariables false
set_option linter.unusedSimpArgs false
theorem mul_lt {j i sz f : Nat} (h : j < i) (hf : f < sz) : j * sz + f < i * sz := by
  have : (j + 1) * sz ≤ i * sz := Nat.mul_le_mul_right sz h
  rw [Nat.succ_mul] at this; omega
theorem in_setC {w : World} {b o : Nat} {vs : List Value} {k : Nat} {v : Value} (h : ∀ j, j < vs.length → (w.cell? ⟨b, o + j, none⟩).isSome = true) (hk : vs[k]? = some v) : (w.setCells b o vs).cell? ⟨b, o + k, none⟩ = some v := by
  obtain ⟨h1, rfl⟩ := List.getElem?_eq_some_iff.1 hk
  exact World.cell?_setCells_in b vs o w h k h1
theorem out_setC {w : World} {b o : Nat} {vs : List Value} {k : Nat} (h : k < o ∨ o + vs.length ≤ k) : (w.setCells b o vs).cell? ⟨b, k, none⟩ = w.cell? ⟨b, k, none⟩ :=
  World.cell?_setCells_out b vs o w ⟨b, k, none⟩ (fun _ _ => h)
/-- The cells after a shift in place, or in a new row. -/
theorem ins_cells {w : World} {b o sz n i : Nat} {vals : Nat → Nat → Value} {pv : Nat → Nat → Value} (hi : i < n) (hsp : ∀ j, j < (n + 1) * sz → (w.cell? ⟨b, o + j, none⟩).isSome = true)
    (hfront : ∀ j f, j < i → f < sz → w.cell? ⟨b, o + (j * sz + f), none⟩ = some (vals j f)) :
    ∀ j f, j < n + 1 → f < sz → ((w.setCells b (o + (i + 1) * sz) ((flatV sz n vals).drop (i * sz))).setCells b (o + i * sz) (flatV sz 1 pv)).cell? ⟨b, o + (j * sz + f), none⟩ = some (insV i vals (pv 0) j f) := by
  intro j f hj hf
  have hl1 : (flatV sz n vals).length = n * sz := flatV_len ..
  have hl2 : (flatV sz 1 pv).length = sz := by rw [flatV_len]; omega
  have hd : ((flatV sz n vals).drop (i * sz)).length = n * sz - i * sz := by rw [List.length_drop, hl1]
  have hin : i * sz + sz ≤ n * sz := by have := Nat.mul_le_mul_right sz hi; rwa [Nat.succ_mul] at this
  have hn1 : (n + 1) * sz = n * sz + sz := Nat.succ_mul ..
  have hi1 : (i + 1) * sz = i * sz + sz := Nat.succ_mul ..
  have hW : ∀ k, k < (n + 1) * sz → ((w.setCells b (o + (i + 1) * sz) ((flatV sz n vals).drop (i * sz))).cell? ⟨b, o + k, none⟩).isSome = true := by
    intro k hk
    by_cases h : (i + 1) * sz ≤ k
    · obtain ⟨q, rfl⟩ : ∃ q, k = (i + 1) * sz + q := ⟨k - (i + 1) * sz, by omega⟩
      have hq : q < ((flatV sz n vals).drop (i * sz)).length := by rw [hd]; omega
      rw [← Nat.add_assoc, in_setC (v := ((flatV sz n vals).drop (i * sz))[q]) (fun j hj => by rw [Nat.add_assoc]; exact hsp _ (by rw [hd] at hj; omega)) (List.getElem?_eq_getElem hq)]; rfl
    · rw [out_setC (by omega)]; exact hsp k hk
  unfold insV
  by_cases h1 : j < i
  · have := mul_lt h1 hf
    rw [if_pos h1, out_setC (by omega), out_setC (by omega)]
    exact hfront j f h1 hf
  rw [if_neg h1]
  by_cases h2 : j = i
  · subst h2
    rw [if_pos rfl, ← Nat.add_assoc]
    refine in_setC (fun k hk => by rw [Nat.add_assoc]; exact hW _ (by rw [hl2] at hk; omega)) ?_
    have := flatV_get (sz := sz) (n := 1) (vals := pv) (i := 0) (f := f) (by omega) hf
    rwa [Nat.zero_mul, Nat.zero_add] at this
  rw [if_neg h2]
  obtain ⟨k, rfl⟩ : ∃ k, j = k + 1 := ⟨j - 1, by omega⟩
  have hk1 : (k + 1) * sz = k * sz + sz := Nat.succ_mul ..
  have hki : i * sz ≤ k * sz := Nat.mul_le_mul_right sz (by omega)
  rw [out_setC (.inr (by rw [hl2]; omega)), show o + ((k + 1) * sz + f) = o + (i + 1) * sz + (k * sz + f - i * sz) by omega]
  refine in_setC (fun q hq => by rw [Nat.add_assoc]; exact hsp _ (by rw [hd] at hq; omega)) ?_
  rw [List.getElem?_drop, show i * sz + (k * sz + f - i * sz) = k * sz + f by omega]
  exact flatV_get (by omega) hf
end Go.Vm
namespace Go.Vm
open Go.Proofs Go.RowKit
set_option linter.unusedVariables false
set_option linter.unusedSimpArgs false
variable {P : Program} {f : FuncId}
def ShiftOk (P : Program) (f : FuncId) (sz : Nat) : Prop := ∀ (b off n c i vb voff vc : Nat) (cs vs : List Value) (w : World), i < n → n + 1 ≤ c → n + 1 ≤ 9223372036854775807 → vb ≠ b → cs.length = n * sz → vs.length = sz →
  (∀ j v, cs[j]? = some v → w.cell? ⟨b, off + j, none⟩ = some v) → (∀ j, j < (n + 1) * sz → (w.cell? ⟨b, off + j, none⟩).isSome = true) → (∀ j, j < (n + 1) * sz → w.frozen? ⟨b, off + j, none⟩ = false) →
  (∀ j v, vs[j]? = some v → w.cell? ⟨vb, voff + j, none⟩ = some v) → (∀ v ∈ cs, v.oneCell' = true) → (∀ v ∈ vs, v.oneCell' = true) →
  ∀ (tA tB : TypeId) (kA kB : Nat), w.shape? vb = some (tA, kA) → w.shape? b = some (tB, kB) → kB ≠ 0 → w.frozen? ⟨vb, voff, none⟩ = false → w.frozen? ⟨vb, kA, none⟩ = false →
  Calls P f #[.slice (some ⟨b, off, none⟩) n c, .int .i64 i, .slice (some ⟨vb, voff, none⟩) 1 vc] w fun e w' =>
      e = .returned (.slice (some ⟨b, off, none⟩) (n + 1) c) ∧ w' = (w.drew.setCells b (off + (i + 1) * sz) (cs.drop (i * sz))).setCells b (off + i * sz) vs
def GrowOk (P : Program) (f : FuncId) (sz : Nat) (t : TypeId) : Prop := ∀ (b off n c i vb voff vc : Nat) (cs vs : List Value) (w : World), i < n → n ≤ c → c < n + 1 → n ≤ 1000000 → cs.length = n * sz → vs.length = sz → b < w.heap.size → vb < w.heap.size →
  (∀ j v, cs[j]? = some v → w.cell? ⟨b, off + j, none⟩ = some v) → (∀ j v, vs[j]? = some v → w.cell? ⟨vb, voff + j, none⟩ = some v) → (∀ v ∈ cs, v.oneCell' = true) → (∀ v ∈ vs, v.oneCell' = true) →
  Calls P f #[.slice (some ⟨b, off, none⟩) n c, .int .i64 i, .slice (some ⟨vb, voff, none⟩) 1 vc] w fun e w' =>
      ∃ (G : Nat) (ROW : Array Value), n + 1 ≤ G ∧ ROW.size = G * sz ∧ (∀ j v, j < i * sz → cs[j]? = some v → ROW[j]? = some v) ∧ e = .returned (.slice (some ⟨w.heap.size, 0, none⟩) (n + 1) G) ∧
      w' = (((w.alloc (.cells ROW t)).drew.setCells w.heap.size (i * sz) vs).drew).setCells w.heap.size ((i + 1) * sz) (cs.drop (i * sz))
theorem shape_of {w : World} {b o : Nat} {v : Value} (h : w.cell? ⟨b, o, none⟩ = some v) : ∃ t k, w.shape? b = some (t, k) ∧ k ≠ 0 := by
  unfold World.cell? at h
  unfold World.shape?
  split at h
  · rename_i c t fz e
    have e' : w.heap[b]? = some (.cells c t fz) := e
    rw [e']
    refine ⟨_, _, rfl, fun h0 => ?_⟩
    split at h
    · cases h
    · have := (Array.getElem?_eq_some_iff.1 h).1
      omega
  · cases h
theorem flat_cells {w : World} {b o sz n : Nat} {vals : Nat → Nat → Value} (hv : RowC w b o sz n vals) : ∀ j v, (flatV sz n vals)[j]? = some v → w.cell? ⟨b, o + j, none⟩ = some v := by
  intro j v h
  have hj : j < n * sz := by have := (List.getElem?_eq_some_iff.1 h).1; rwa [flatV_len] at this
  obtain ⟨i, f, rfl, hi, hf⟩ := flatV_get' (vals := vals) hj
  rw [flatV_get hi hf] at h
  cases h
  exact hv i f hi hf
theorem flat_mem {sz n : Nat} {vals : Nat → Nat → Value} {Q : Value → Prop} (h : ∀ i f, i < n → f < sz → Q (vals i f)) : ∀ v ∈ flatV sz n vals, Q v := by
  intro v hv
  obtain ⟨j, hj⟩ := List.getElem?_of_mem hv
  have hj' : j < n * sz := by have := (List.getElem?_eq_some_iff.1 hj).1; rwa [flatV_len] at this
  obtain ⟨i, f, rfl, hi, hf⟩ := flatV_get' (vals := vals) hj'
  rw [flatV_get hi hf] at hj
  cases hj
  exact h i f hi hf
theorem setC_drew (b : Nat) : ∀ (vs : List Value) (o : Nat) (w : World), w.drew.setCells b o vs = (w.setCells b o vs).drew
  | [], _, _ => rfl
  | v :: r, o, w => by rw [World.setCells, World.setCells, ← setC_drew b r]; rfl
theorem ins_cells2 {w : World} {b o sz n i : Nat} {vals : Nat → Nat → Value} {pv : Nat → Nat → Value} (hi : i < n) (hsp : ∀ j, j < (n + 1) * sz → (w.cell? ⟨b, o + j, none⟩).isSome = true)
    (hfront : ∀ j f, j < i → f < sz → w.cell? ⟨b, o + (j * sz + f), none⟩ = some (vals j f)) :
    ∀ j f, j < n + 1 → f < sz → ((w.setCells b (o + i * sz) (flatV sz 1 pv)).setCells b (o + (i + 1) * sz) ((flatV sz n vals).drop (i * sz))).cell? ⟨b, o + (j * sz + f), none⟩ = some (insV i vals (pv 0) j f) := by
  intro j f hj hf
  have hl1 : (flatV sz n vals).length = n * sz := flatV_len ..
  have hl2 : (flatV sz 1 pv).length = sz := by rw [flatV_len]; omega
  have hd : ((flatV sz n vals).drop (i * sz)).length = n * sz - i * sz := by rw [List.length_drop, hl1]
  have hin : i * sz + sz ≤ n * sz := by have := Nat.mul_le_mul_right sz hi; rwa [Nat.succ_mul] at this
  have hn1 : (n + 1) * sz = n * sz + sz := Nat.succ_mul ..
  have hi1 : (i + 1) * sz = i * sz + sz := Nat.succ_mul ..
  have hW : ∀ k, k < (n + 1) * sz → ((w.setCells b (o + i * sz) (flatV sz 1 pv)).cell? ⟨b, o + k, none⟩).isSome = true := by
    intro k hk
    by_cases h : i * sz ≤ k ∧ k < i * sz + sz
    · obtain ⟨q, rfl⟩ : ∃ q, k = i * sz + q := ⟨k - i * sz, by omega⟩
      have hq : q < (flatV sz 1 pv).length := by rw [hl2]; omega
      rw [← Nat.add_assoc, in_setC (v := (flatV sz 1 pv)[q]) (fun j hj => by rw [Nat.add_assoc]; exact hsp _ (by rw [hl2] at hj; omega)) (List.getElem?_eq_getElem hq)]; rfl
    · rw [out_setC (by rw [hl2]; omega)]; exact hsp k hk
  unfold insV
  by_cases h1 : j < i
  · have := mul_lt h1 hf
    rw [if_pos h1, out_setC (by omega), out_setC (by omega)]
    exact hfront j f h1 hf
  rw [if_neg h1]
  by_cases h2 : j = i
  · subst h2
    rw [if_pos rfl, out_setC (by omega), ← Nat.add_assoc]
    refine in_setC (fun k hk => by rw [Nat.add_assoc]; exact hsp _ (by rw [hl2] at hk; omega)) ?_
    have := flatV_get (sz := sz) (n := 1) (vals := pv) (i := 0) (f := f) (by omega) hf
    rwa [Nat.zero_mul, Nat.zero_add] at this
  rw [if_neg h2]
  obtain ⟨k, rfl⟩ : ∃ k, j = k + 1 := ⟨j - 1, by omega⟩
  have hk1 : (k + 1) * sz = k * sz + sz := Nat.succ_mul ..
  have hki : i * sz ≤ k * sz := Nat.mul_le_mul_right sz (by omega)
  rw [show o + ((k + 1) * sz + f) = o + (i + 1) * sz + (k * sz + f - i * sz) by omega]
  refine in_setC (fun q hq => by rw [Nat.add_assoc]; exact hW _ (by rw [hd] at hq; omega)) ?_
  rw [List.getElem?_drop, show i * sz + (k * sz + f - i * sz) = k * sz + f by omega]
  exact flatV_get (by omega) hf
theorem ins_mid {sz : Nat} {t : TypeId} {α : Type} {enc : α → List D} (hz : ∀ a, (enc a).length = sz) (hp : 0 < sz) (hfn : ∃ fn, P.funcs[f]? = some fn ∧ (fn.name == "runtime.NumGoroutine") = false ∧ fn.body.isNone = false)
    (hS : ShiftOk P f sz) (hG : GrowOk P f sz t) (x : InsX α) (hx : x.i < x.l.length) : FnOkAt P f (cIns sz enc) x := by
  intro w args R Kp Fs ha hD hcl hK hR
  have hlt := ha.lt
  obtain ⟨v1, v3, F1, F2, F3, rfl, rfl, o1, o2, o3⟩ := args_ins ha
  obtain ⟨l, i, p, hi, hl⟩ := x
  replace hx : i < l.length := hx
  replace o1 : Own w Kp F1 v1 (.row sz enc l) := o1
  replace o3 : Own w Kp F3 v3 (.row sz enc [p]) := o3
  replace hl : l.length ≤ 1000000 := hl
  replace hi : i ≤ l.length := hi
  obtain ⟨_, hm, h | ⟨b, o, c, rfl, hc, hcap, hb, vals, hv, G, g1, g2, g3, g4⟩⟩ := o1.row_inv
  · rw [h.1] at hx; simp at hx
  obtain ⟨_, _, h | ⟨vb, vo, vc, rfl, hvc, hvcap, hvb, pv, hpv, Gp, q1, q2, q3, q4⟩⟩ := o3.row_inv
  · cases h.1
  obtain ⟨fn, f1, f2, f3⟩ := hfn
  have any1 : ∀ y, F1 y → AnyF [F1, F2, F3] y := fun y h => ⟨F1, by simp, h⟩
  have any3 : ∀ y, F3 y → AnyF [F1, F2, F3] y := fun y h => ⟨F3, by simp, h⟩
  have hdis : ∀ y, F1 y → ¬ F3 y := by
    unfold DisF at hD
    simp only [List.pairwise_cons] at hD
    exact hD.1 F3 (by simp)
  have b1 : F1 b := (g4 b).2 (.inl rfl)
  have b3 : F3 vb := (q4 vb).2 (.inl rfl)
  have hne : vb ≠ b := by rintro rfl; exact hdis _ b1 b3
  have G1 : ∀ i f x, i < l.length → f < sz → G i f x → F1 x := fun i f x h1 h2 h => (g4 x).2 (.inr ⟨i, f, h1, h2, h⟩)
  have G3 : ∀ f x, f < sz → Gp 0 f x → F3 x := fun f x h2 h => (q4 x).2 (.inr ⟨0, f, by simp, h2, h⟩)
  have hKb : ∀ y, Kp y → y ≠ b := by rintro y hy rfl; exact (hcl _ (any1 _ b1)).1 (hK _ hy)
  have p1 : ∀ f, f < sz → Own w Kp (Gp 0 f) (pv 0 f) ((enc p).getD f .dead) := fun f hf => q1 0 f (by simp) hf
  have hvs : ∀ j v, (flatV sz 1 pv)[j]? = some v → w.cell? ⟨vb, vo + j, none⟩ = some v := flat_cells hpv
  have hcs : ∀ j v, (flatV sz l.length vals)[j]? = some v → w.cell? ⟨b, o + j, none⟩ = some v := flat_cells hv
  have h1c : ∀ v ∈ flatV sz l.length vals, v.oneCell' = true := flat_mem fun i f hi hf => (g1 i f hi hf).one
  have h1v : ∀ v ∈ flatV sz 1 pv, v.oneCell' = true := flat_mem fun i f hi hf => by
    obtain rfl : i = 0 := by omega
    exact (p1 f hf).one
  have hvl : (flatV sz 1 pv).length = sz := by rw [flatV_len]; omega
  by_cases hroom : l.length + 1 ≤ c
  · have hcs0 : (l.length + 1) * sz ≤ c * sz := Nat.mul_le_mul_right sz hroom
    obtain ⟨tA, kA, sA, _⟩ := shape_of (hpv 0 0 (by simp) hp)
    obtain ⟨tB, kB, sB, hkB⟩ := shape_of (hv 0 0 (by omega) hp)
    have hsp : ∀ j, j < (l.length + 1) * sz → (w.cell? ⟨b, o + j, none⟩).isSome = true := fun j hj => by
      obtain ⟨x, hx⟩ := (hcap j (by omega)).1
      rw [hx]; rfl
    refine .inl ⟨fn, f1, f2, f3, (hS b o l.length c i vb vo vc _ _ w hx hroom (by omega) hne (flatV_len ..) hvl hcs hsp (fun j hj => (hcap j (by omega)).2) hvs h1c h1v tA tB kA kB sA sB hkB ((hcl _ (any3 _ b3)).2 _) ((hcl _ (any3 _ b3)).2 _)).mono fun e w' ⟨he, hw'⟩ => ⟨_, he, ?_⟩⟩
    have hsh : Shape w w' := by rw [hw']; exact ((Shape.drew w).trans (setCells_shape b _ _ _)).trans (setCells_shape b _ _ _)
    have hblk : ∀ y, y ≠ b → w'.heap[y]? = w.heap[y]? := fun y hy => by rw [hw', setCells_blk _ _ _ hy, setCells_blk _ _ _ hy]; rfl
    have own := ins_own (w := w) (w' := w') (Kp := Kp) (p := p) (i := i) hz hi (by omega) g1 g2 p1 (fun f g hf hg hn => q2 0 f 0 g (by simp) hf (by simp) hg (.inr hn))
      (fun i f g h1 h2 h3 x h4 h5 => hdis x (G1 i f x h1 h2 h4) (G3 g x h3 h5)) (Nat.lt_of_lt_of_le hb hsh.size) hroom
      (fun j hj => ⟨hsh.cell b _ hb (hcap j hj).1, by rw [hsh.fr b _ hb]; exact (hcap j hj).2⟩)
      (by
        rw [hw']
        exact ins_cells (w := w.drew) hx hsp fun j f hj hf => hv j f (by omega) hf)
      g3 (fun f hf h => hdis b b1 (G3 f b hf h))
      (by
        rintro y (⟨i, f, h1, h2, h⟩ | ⟨f, h2, h⟩ | h)
        · exact hblk y (by rintro rfl; exact g3 i f h1 h2 h)
        · exact hblk y (by rintro rfl; exact hdis _ b1 (G3 f _ h2 h))
        · exact hblk y (hKb y h))
    have src : ∀ y, (y = b ∨ ∃ j f, j < l.length + 1 ∧ f < sz ∧ insV i G (Gp 0) j f y) → AnyF [F1, F2, F3] y := by
      rintro y (rfl | ⟨j, f, hj, hf, h⟩)
      · exact any1 _ b1
      · unfold insV at h
        split at h
        · exact any1 _ (G1 j f y (by omega) hf h)
        · split at h
          · exact any3 _ (G3 f y hf h)
          · exact any1 _ (G1 (j - 1) f y (by omega) hf h)
    exact out_one rfl rfl rfl ⟨rfl, rfl⟩ hsh (fun y hy hn => hblk y (by rintro rfl; exact hn (any1 _ b1))) own (fun y hy => .inr (src y hy)) fun y hy => (hcl y (src y hy)).2.shape hsh (hlt y (src y hy))
  · refine .inl ⟨fn, f1, f2, f3, (hG b o l.length c i vb vo vc _ _ w hx hc (by omega) hl (flatV_len ..) hvl hb hvb hcs hvs h1c h1v).mono fun e w' ⟨N, ROW, r1, r2, r3, he, hw'⟩ => ⟨_, he, ?_⟩⟩
    have hsh : Shape w w' := by rw [hw']; exact ((((Shape.alloc w _).trans (Shape.drew _)).trans (setCells_shape _ _ _ _)).trans (Shape.drew _)).trans (setCells_shape _ _ _ _)
    have hblk : ∀ y, y < w.heap.size → w'.heap[y]? = w.heap[y]? := fun y hy => by
      rw [hw', setCells_blk _ _ _ (show y ≠ w.heap.size by omega)]
      show ((w.alloc (.cells ROW t)).drew.setCells w.heap.size (i * sz) _).heap[y]? = _
      rw [setCells_blk _ _ _ (show y ≠ w.heap.size by omega)]
      exact Below.heap_alloc w _ y hy
    have hcell : ∀ j, ((w.alloc (.cells ROW t)).drew).cell? ⟨w.heap.size, j, none⟩ = ROW[j]? := fun j => World.cell?_alloc_at (w := w) ROW _ w.heap.size j rfl
    have hfz : ∀ j, w'.frozen? ⟨w.heap.size, j, none⟩ = false := fun j => by
      rw [hw', World.frozen?_setCells]
      show (((w.alloc (.cells ROW t)).drew.setCells w.heap.size (i * sz) _)).frozen? _ = false
      rw [World.frozen?_setCells]
      exact World.frozen?_alloc_at (w := w) ROW _ w.heap.size j rfl
    have hNs : (l.length + 1) * sz ≤ N * sz := Nat.mul_le_mul_right sz r1
    have hsp : ∀ j, j < N * sz → (((w.alloc (.cells ROW t)).drew).cell? ⟨w.heap.size, 0 + j, none⟩).isSome = true := fun j hj => by
      rw [Nat.zero_add, hcell, Array.getElem?_eq_getElem (by omega)]; rfl
    have hlt1 : ∀ i f, i < l.length → f < sz → ¬ G i f w.heap.size := fun i f h1 h2 h => by have := hlt _ (any1 _ (G1 i f _ h1 h2 h)); omega
    have hlt3 : ∀ f, f < sz → ¬ Gp 0 f w.heap.size := fun f h2 h => by have := hlt _ (any3 _ (G3 f _ h2 h)); omega
    have hwb : w.heap.size < w'.heap.size := by
      have h0 : (w.alloc (.cells ROW t)).heap.size = w.heap.size + 1 := by simp
      have h1 : w'.heap.size = (w.alloc (.cells ROW t)).heap.size := by
        rw [hw', setCells_size]
        show ((w.alloc (.cells ROW t)).drew.setCells w.heap.size (i * sz) _).heap.size = _
        rw [setCells_size]; rfl
      omega
    have hsh2 : Shape ((w.alloc (.cells ROW t)).drew) w' := by rw [hw']; exact ((setCells_shape _ _ _ _).trans (Shape.drew _)).trans (setCells_shape _ _ _ _)
    have own := ins_own (w := w) (w' := w') (Kp := Kp) (p := p) (i := i) (b := w.heap.size) (o := 0) (c := N) hz hi (by omega) g1 g2 p1 (fun f g hf hg hn => q2 0 f 0 g (by simp) hf (by simp) hg (.inr hn))
      (fun i f g h1 h2 h3 x h4 h5 => hdis x (G1 i f x h1 h2 h4) (G3 g x h3 h5)) hwb r1
      (fun j hj => ⟨hsh2.cell w.heap.size _ (by show w.heap.size < (w.alloc (.cells ROW t)).heap.size; simp) (by
        have := hsp j hj
        cases e : ((w.alloc (.cells ROW t)).drew).cell? ⟨w.heap.size, 0 + j, none⟩ with
        | none => rw [e] at this; cases this
        | some u => exact ⟨u, rfl⟩), hfz _⟩)
      (by
        intro j f hj hf
        rw [hw']
        have := ins_cells2 (w := (w.alloc (.cells ROW t)).drew) (b := w.heap.size) (o := 0) (vals := vals) (pv := pv) hx (fun j hj => hsp j (by omega)) (fun j f hj hf => by
          rw [Nat.zero_add, hcell]
          exact r3 _ _ (mul_lt hj hf) (flatV_get (by omega) hf)) j f hj hf
        rw [Nat.zero_add, Nat.zero_add] at this
        rw [setC_drew w.heap.size ((flatV sz l.length vals).drop (i * sz))]
        exact this)
      hlt1 hlt3
      (by
        rintro y (⟨i, f, h1, h2, h⟩ | ⟨f, h2, h⟩ | h)
        · exact hblk y (hlt _ (any1 _ (G1 i f y h1 h2 h)))
        · exact hblk y (hlt _ (any3 _ (G3 f y h2 h)))
        · exact hblk y (hR _ (hK _ h)))
    have src : ∀ y, (y = w.heap.size ∨ ∃ j f, j < l.length + 1 ∧ f < sz ∧ insV i G (Gp 0) j f y) → w.heap.size = y ∨ AnyF [F1, F2, F3] y := by
      rintro y (rfl | ⟨j, f, hj, hf, h⟩)
      · exact .inl rfl
      · right
        unfold insV at h
        split at h
        · exact any1 _ (G1 j f y (by omega) hf h)
        · split at h
          · exact any3 _ (G3 f y hf h)
          · exact any1 _ (G1 (j - 1) f y (by omega) hf h)
    refine out_one rfl rfl rfl ⟨rfl, rfl⟩ hsh (fun y hy hn => hblk y hy) own (fun y hy => (src y hy).imp (fun e => by omega) id) fun y hy => ?_
    rcases src y hy with rfl | h
    · exact hfz
    · exact (hcl y h).2.shape hsh (hlt y h)
end Go.Vm
namespace Go.Vm
open Go.Proofs Go.RowKit Go.Lib
set_option linter.unusedVariables false
set_option linter.unusedSimpArgs false
theorem drew_setC (b : Nat) : ∀ (vs : List Value) (o : Nat) (w : World), (w.setCells b o vs).drew = w.drew.setCells b o vs
  | [], _, _ => rfl
  | v :: r, o, w => by rw [World.setCells, World.setCells, drew_setC b r]; rfl
theorem isSome_setC (b : Nat) (vs : List Value) (o : Nat) (w : World) (h : ∀ j, j < vs.length → (w.cell? ⟨b, o + j, none⟩).isSome = true) (k : Nat) (hk : (w.cell? ⟨b, k, none⟩).isSome = true) : ((w.setCells b o vs).cell? ⟨b, k, none⟩).isSome = true := by
  by_cases hin : o ≤ k ∧ k < o + vs.length
  · have := World.cell?_setCells_in b vs o w h (k - o) (by omega)
    rw [show o + (k - o) = k by omega] at this
    rw [this]; rfl
  · rw [World.cell?_setCells_out b vs o w ⟨b, k, none⟩ (fun _ _ => by show k < o ∨ o + vs.length ≤ k; omega)]
    exact hk
theorem wp_copyI {P : Program} (w : World) {o : Oper} {a : Act} {K : Act → World → Prop} {Q : Exit → Act → World → Prop} (d s : Operand) (t t' : TypeId)
    (ho : o.op = .call { callee := .builtin .copy, args := #[d, s], argTypes := #[t, t'] }) (v u : Value) (hd : a.eval d = v) (hs : a.eval s = u) {v' : Value} {w' : World}
    (hr : (Builtin.copy_ #[t, t'] o.type #[v, u]).run P w = .ok v' w') (h : K (a.put o.dst v') w') : o.wp P a w K Q := by
  unfold Oper.wp execOp
  simp only [ho, resolve, invoke, builtin, Sem.run_bind, Sem.run_pure, Result.andThen_ok, List.map_toArray, List.map_cons, List.map_nil, hd, hs, hr]
  exact h
theorem wpList_copyI {P : Program} (w : World) {ops : Array Oper} {rest : List Oper} {o : Oper} {a : Act} {Q : Exit → Act → World → Prop} (hgd : o.guard = none) (d s : Operand) (t t' : TypeId)
    (ho : o.op = .call { callee := .builtin .copy, args := #[d, s], argTypes := #[t, t'] }) (v u : Value) (hd : a.eval d = v) (hs : a.eval s = u) {v' : Value} {w' : World}
    (hr : (Builtin.copy_ #[t, t'] o.type #[v, u]).run P w = .ok v' w') (h : wpList P ops Q rest (a.put o.dst v') w') : wpList P ops Q (o :: rest) a w :=
  wpList_plain hgd fun _ hK => wp_copyI w d s t t' ho v u hd hs hr (hK _ _ h)
theorem step_copyI {P : Program} {ops : Array Oper} {o : Oper} {a : Act} {w : World} {K : Act → World → Prop} {Q : Exit → Act → World → Prop} {E : Prop}
    (hg : o.guard = none) (d x : Operand) (dT sT : TypeId) (hop : o.op = Op.call { callee := Callee.builtin Builtin.copy, args := #[d, x], argTypes := #[dT, sT] })
    (v u : Value) (hd : a.eval d = v) (hx : a.eval x = u) {v' : Value} {w' : World} (hr : (Builtin.copy_ #[dT, sT] o.type #[v, u]).run P w = .ok v' w') (hK : K (a.put o.dst v') w') :
    if Region.wanted o (yielded ops a.tmps) = true then Oper.wp P o a w K Q else E := by
  have hw : Region.wanted o (yielded ops a.tmps) = true := by simp [Region.wanted, hg]
  rw [if_pos hw]
  unfold Oper.wp
  simp [execOp, hop, resolve, invoke, builtin, hd, hx, hr, Result.andThen]
  exact hK

set_option maxHeartbeats 4000000 in
set_option maxRecDepth 100000 in
theorem ins2_shift (b off n c i vb voff vc : Nat) (cs vs : List Value) (w : World) (hi : i < n) (hroom : n + 1 ≤ c) (hn63 : n + 1 ≤ 9223372036854775807) (hvb : vb ≠ b)
    (hcl : cs.length = n * 2) (hvl : vs.length = 2)
    (hcs : ∀ j v, cs[j]? = some v → w.cell? ⟨b, off + j, none⟩ = some v) (hsp : ∀ j, j < (n + 1) * 2 → (w.cell? ⟨b, off + j, none⟩).isSome = true) (hfz : ∀ j, j < (n + 1) * 2 → w.frozen? ⟨b, off + j, none⟩ = false)
    (hvs : ∀ j v, vs[j]? = some v → w.cell? ⟨vb, voff + j, none⟩ = some v) (h1c : ∀ v ∈ cs, v.oneCell' = true) (h1v : ∀ v ∈ vs, v.oneCell' = true)
    (tA tB : TypeId) (kA kB : Nat) (hsa : w.shape? vb = some (tA, kA)) (hsb : w.shape? b = some (tB, kB)) (hkB : kB ≠ 0) (hfa : w.frozen? ⟨vb, voff, none⟩ = false) (hfe : w.frozen? ⟨vb, kA, none⟩ = false) :
    Calls Try.prog 227 #[.slice (some ⟨b, off, none⟩) n c, .int .i64 i, .slice (some ⟨vb, voff, none⟩) 1 vc] w fun e w' =>
      e = .returned (.slice (some ⟨b, off, none⟩) (n + 1) c) ∧ w' = (w.drew.setCells b (off + (i + 1) * 2) (cs.drop (i * 2))).setCells b (off + i * 2) vs := by
  have t54 := Try.underlying54
  have u54 := run_underlying (P := Try.prog) t54
  have t3 := Try.underlying3
  have u3 := run_underlying (P := Try.prog) t3
  have hsz : (Try.prog.info? 88).map (·.size) = some 2 := by kernel_rfl
  have z88 : ∀ w, (Go.sizeOf 88).run Try.prog w = .ok 2 w := fun w => by
    cases hq : Try.prog.info? 88 with
    | none => rw [hq] at hsz; cases hsz
    | some i0 =>
      have hs0 : i0.size = 2 := by simpa [hq] using hsz
      simp [Go.sizeOf, typeInfo, hq, hs0]
  have hz2 : ¬ ((i : Int) = (n : Int)) := by omega
  have hov : ∀ lb cb, (callFunc 233 #[.slice (some ⟨vb, voff, none⟩) 1 vc, .slice (some ⟨b, off + (i + 1) * 2, none⟩) lb cb]).run Try.prog w = .ok (.value (.bool false)) w := fun lb cb => by
    rw [run_callFunc_extern (fn := Try.f233) (by kernel_rfl) (by kernel_rfl) (by kernel_rfl) (by kernel_rfl) (e := Extern.SlicesOverlaps.overlaps #[54, 54] #[4]) (by kernel_rfl),
      Lib.run_overlaps_apart w 54 4 88 t54 2 z88 ⟨vb, voff, none⟩ ⟨b, off + (i + 1) * 2, none⟩ 1 vc lb cb hvb tA tB kA kB hsa hsb hkB hfa hfe]
    rfl
  have hdl : (cs.drop (i * 2)).length = (n - i) * 2 := by rw [List.length_drop, hcl, Nat.sub_mul]
  have hw1 : IntKind.i64.wrap ((i : Int) + (1 : Int)) = (i : Int) + (1 : Int) := by rw [IntKind.wrap_i64]; omega
  have hw2 : IntKind.i64.wrap ((n : Int) + (1 : Int)) = (n : Int) + (1 : Int) := by rw [IntKind.wrap_i64]; omega
  have hb1 : (0 : Int) ≤ (i : Int) + (1 : Int) := by omega
  have hin : i ≤ n := by omega
  have htn : ((i : Int) + (1 : Int)).toNat = i + 1 := by omega
  have hb2 : ¬ (c = i + 1) := by omega
  have hb3 : (i : Int) ≤ (n : Int) + (1 : Int) := by omega
  have hb4 : ¬ (c = i) := by omega
  have hcp1 : ∀ ty dc sc, (Builtin.copy_ #[54, 54] ty #[.slice (some ⟨b, off + (i + 1) * 2, none⟩) (n - i) dc, .slice (some ⟨b, off + i * 2, none⟩) (n + 1 - i) sc]).run Try.prog w.drew = .ok (goInt (n - i : Nat)) (w.drew.setCells b (off + (i + 1) * 2) (cs.drop (i * 2))) := fun ty dc sc =>
    run_copyN w.drew _ _ ty 88 b (off + (i + 1) * 2) (n - i) dc ⟨b, off + i * 2, none⟩ (n + 1 - i) sc 2 (n - i) (cs.drop (i * 2)) t54 hsz (by simp only [Nat.min_def]; split <;> omega) hdl
      (fun j v hj => by rw [Addr.add_lit, Nat.add_assoc]; exact hcs (i * 2 + j) v (by rwa [List.getElem?_drop] at hj))
      (fun j hj => by rw [Nat.add_assoc]; exact hsp _ (by rw [hdl] at hj; omega)) (fun j hj => by rw [Nat.add_assoc]; exact hfz _ (by rw [hdl] at hj; omega)) (fun v hv => h1c v (List.mem_of_mem_drop hv))
  obtain ⟨W1, hW1⟩ : ∃ W1, W1 = w.drew.setCells b (off + (i + 1) * 2) (cs.drop (i * 2)) := ⟨_, rfl⟩
  have hsp1 : ∀ k, k < (n + 1) * 2 → (W1.cell? ⟨b, off + k, none⟩).isSome = true := fun k hk => by
    rw [hW1]
    exact isSome_setC b _ _ _ (fun j hj => by rw [Nat.add_assoc]; exact hsp _ (by rw [hdl] at hj; omega)) _ (hsp k hk)
  have hcp2 : ∀ (W : World), (∀ x, W.cell? x = W1.cell? x) → (∀ x, W.frozen? x = W1.frozen? x) → ∀ ty dc, (Builtin.copy_ #[54, 54] ty #[.slice (some ⟨b, off + i * 2, none⟩) (n + 1 - i) dc, .slice (some ⟨vb, voff, none⟩) 1 vc]).run Try.prog W = .ok (goInt (1 : Nat)) (W.setCells b (off + i * 2) vs) := fun W hWc hWf ty dc =>
    run_copyN W _ _ ty 88 b (off + i * 2) (n + 1 - i) dc ⟨vb, voff, none⟩ 1 vc 2 1 vs t54 hsz (by simp only [Nat.min_def]; split <;> omega) (by rw [hvl])
      (fun j v hj => by
        rw [Addr.add_lit, hWc, hW1, World.cell?_setCells_out b _ _ _ _ (fun h _ => absurd h hvb)]
        exact hvs j v hj)
      (fun j hj => by rw [hWc, Nat.add_assoc]; exact hsp1 _ (by rw [hvl] at hj; omega)) (fun j hj => by rw [hWf, hW1, World.frozen?_setCells, Nat.add_assoc]; exact hfz _ (by rw [hvl] at hj; omega)) h1v
  rw [← hW1] at hcp1
  have mixed : Try.prog.follows Departure.mixedOrders = true := by kernel_rfl
  go_enter Try.func227, Try.ntmps227
  go_wp2_with (simp only [hov])
  go_region_law_o (refine step_copyI rfl _ _ 54 54 rfl _ _ (by simp [Act.eval, Act.put]) (by simp [Act.eval, Act.put]) (hcp1 _ _ _) ?_)
  go_wp2_with (at_builtin; refine wpList_copyI _ rfl _ _ 54 54 rfl _ _ rfl rfl (hcp2 _ (fun _ => rfl) (fun _ => rfl) _ _) ?_)
  go_ret
  first | exact ⟨rfl, rfl⟩ | exact ⟨rfl, by rw [hW1]⟩
end Go.Vm
namespace Go.Vm
open Go.Proofs Go.RowKit Go.Lib
set_option linter.unusedVariables false
set_option linter.unusedSimpArgs false
set_option maxHeartbeats 4000000 in
set_option maxRecDepth 100000 in
theorem ins2_grow (b off n c i vb voff vc : Nat) (cs vs : List Value) (w : World) (hi : i < n) (hnc : n ≤ c) (hroom : c < n + 1) (hbig : (n + 1) * 32 ≤ 140737488355328)
    (hcl : cs.length = n * 2) (hvl : vs.length = 2) (hbw : b < w.heap.size) (hvw : vb < w.heap.size)
    (hcs : ∀ j v, cs[j]? = some v → w.cell? ⟨b, off + j, none⟩ = some v)
    (hvs : ∀ j v, vs[j]? = some v → w.cell? ⟨vb, voff + j, none⟩ = some v) (h1c : ∀ v ∈ cs, v.oneCell' = true) (h1v : ∀ v ∈ vs, v.oneCell' = true) :
    Calls Try.prog 227 #[.slice (some ⟨b, off, none⟩) n c, .int .i64 i, .slice (some ⟨vb, voff, none⟩) 1 vc] w fun e w' =>
      ∃ (G : Nat) (ROW : Array Value), n + 1 ≤ G ∧ ROW.size = G * 2 ∧ (∀ j v, j < i * 2 → cs[j]? = some v → ROW[j]? = some v) ∧ e = .returned (.slice (some ⟨w.heap.size, 0, none⟩) (n + 1) G) ∧
      w' = (((w.alloc (.cells ROW 88)).drew.setCells w.heap.size (i * 2) vs).drew).setCells w.heap.size ((i + 1) * 2) (cs.drop (i * 2)) := by
  have t54 := Try.underlying54
  have u54 := run_underlying (P := Try.prog) t54
  have t3 := Try.underlying3
  have u3 := run_underlying (P := Try.prog) t3
  have hsz : (Try.prog.info? 88).map (·.size) = some 2 := by kernel_rfl
  have hby : (Try.prog.info? 88).map (·.bytes) = some 32 := by kernel_rfl
  have hze : (Try.prog.info? 88).bind (·.zero) = some (.agg #[.string ⟨#[]⟩, .string ⟨#[]⟩]) := by kernel_rfl
  obtain ⟨i0, hi0, hzs, hzb, hz0⟩ : ∃ i0, Try.prog.info? 88 = some i0 ∧ i0.size = 2 ∧ i0.bytes = 32 ∧ i0.zero = some (.agg #[.string ⟨#[]⟩, .string ⟨#[]⟩]) := by
    cases hq : Try.prog.info? 88 with
    | none => rw [hq] at hsz; cases hsz
    | some i0 => rw [hq] at hsz hby hze; exact ⟨i0, rfl, by simpa using hsz, by simpa using hby, by simpa using hze⟩
  have hz2 : ¬ ((i : Int) = (n : Int)) := by omega
  have hz3 : (c : Int) < (n : Int) + (1 : Int) := by omega
  have hkk : (n : Int) + (1 : Int) - (i : Int) = ((n + 1 - i : Nat) : Int) := by omega
  have hik : i + (n + 1 - i) = n + 1 := by omega
  have hold : (Builtin.firstCells i0.size i (.slice (some ⟨b, off, none⟩) i c)).run Try.prog w.drew = .ok (cs.take (i * 2)).toArray w.drew := by
    rw [hzs]
    exact run_firstCells_some w.drew 2 i ⟨b, off, none⟩ i c (cs.take (i * 2)) (by rw [List.length_take]; omega) (fun j v hj => by
      rw [Addr.add_lit]
      rw [List.getElem?_take] at hj
      split at hj
      · exact hcs j v hj
      · cases hj)
  have hrz : ∀ ty, (Builtin.append_ #[54, 3] ty #[.slice (some ⟨b, off, none⟩) i c, .int .i64 ((n : Int) + (1 : Int) - (i : Int))]).run Try.prog w =
      .ok (.slice (some ⟨w.heap.size, 0, none⟩) (n + 1) (grownCap w (n + 1) c 88)) (w.drew.alloc (.cells ((cs.take (i * 2)).toArray ++ Builtin.zeroCells (Value.agg #[.string ⟨#[]⟩, .string ⟨#[]⟩]).cells (n + 1 - i) ++ Builtin.zeroCells (Value.agg #[.string ⟨#[]⟩, .string ⟨#[]⟩]).cells (grownCap w (n + 1) c 88 - (n + 1))) 88)) := fun ty => by
    have h := Lib.run_append_grow_zeros w 54 3 ty 88 i0 _ .i64 .i64 t54 t3 hi0 hz0 (some ⟨b, off, none⟩) i c (cs.take (i * 2)) hold (n + 1 - i) (by omega) (by omega) (by omega) (by omega) (by rw [hzb]; omega) (by rw [hzb, hik]; exact growslice_fits hroom hbig)
    rw [hik] at h
    rw [hkk]
    exact h
  obtain ⟨G, hG⟩ : ∃ G, G = grownCap w (n + 1) c 88 := ⟨_, rfl⟩
  obtain ⟨ROW, hROW⟩ : ∃ ROW : Array Value, ROW = (cs.take (i * 2)).toArray ++ Builtin.zeroCells (Value.agg #[.string ⟨#[]⟩, .string ⟨#[]⟩]).cells (n + 1 - i) ++ Builtin.zeroCells (Value.agg #[.string ⟨#[]⟩, .string ⟨#[]⟩]).cells (G - (n + 1)) := ⟨_, rfl⟩
  rw [← hG] at hrz
  rw [← hROW] at hrz
  have hGn : n + 1 ≤ G := by rw [hG]; exact grownCap_ge w _ _ _
  have hRl : ROW.size = G * 2 := by
    rw [hROW]
    simp [Builtin.zeroCells, Value.cells]
    omega
  have hRc : ∀ j v, j < i * 2 → cs[j]? = some v → ROW[j]? = some v := by
    intro j v hj hv
    have hjl : j < cs.length := (List.getElem?_eq_some_iff.1 hv).1
    rw [hROW, Array.getElem?_append_left (by simp; omega), Array.getElem?_append_left (by simp; omega), List.getElem?_toArray, List.getElem?_take, if_pos hj]
    exact hv
  obtain ⟨W1, hW1⟩ : ∃ W1, W1 = w.drew.alloc (.cells ROW 88) := ⟨_, rfl⟩
  rw [← hW1] at hrz
  have hN : ∀ j, j < (n + 1) * 2 → (W1.cell? ⟨w.heap.size, j, none⟩).isSome = true := fun j hj => by
    rw [hW1, World.cell?_alloc_at (w := w.drew) ROW _ w.heap.size j rfl, Array.getElem?_eq_getElem (by omega)]; rfl
  have hNf : ∀ j, W1.frozen? ⟨w.heap.size, j, none⟩ = false := fun j => by rw [hW1]; exact World.frozen?_alloc_at (w := w.drew) ROW _ w.heap.size j rfl
  have hOb : ∀ j v, w.cell? ⟨b, j, none⟩ = some v → W1.cell? ⟨b, j, none⟩ = some v := fun j v h => by rw [hW1, World.cell?_alloc_past (w := w.drew) _ b j hbw]; exact h
  have hOv : ∀ j v, w.cell? ⟨vb, j, none⟩ = some v → W1.cell? ⟨vb, j, none⟩ = some v := fun j v h => by rw [hW1, World.cell?_alloc_past (w := w.drew) _ vb j hvw]; exact h
  have hcpA : ∀ (W : World), (∀ x, W.cell? x = W1.cell? x) → (∀ x, W.frozen? x = W1.frozen? x) → ∀ ty dc, (Builtin.copy_ #[54, 54] ty #[.slice (some ⟨w.heap.size, i * 2, none⟩) (n + 1 - i) dc, .slice (some ⟨vb, voff, none⟩) 1 vc]).run Try.prog W = .ok (goInt (1 : Nat)) (W.setCells w.heap.size (i * 2) vs) := fun W hWc hWf ty dc =>
    run_copyN W _ _ ty 88 w.heap.size (i * 2) (n + 1 - i) dc ⟨vb, voff, none⟩ 1 vc 2 1 vs t54 hsz (by simp only [Nat.min_def]; split <;> omega) (by rw [hvl])
      (fun j v hj => by rw [Addr.add_lit, hWc]; exact hOv _ v (hvs j v hj))
      (fun j hj => by rw [hWc]; exact hN _ (by rw [hvl] at hj; omega)) (fun j hj => by rw [hWf]; exact hNf _) h1v
  have hG63 : G ≤ 9223372036854775807 := by
    have := grownCap_le_maxLen w (n + 1) c 88 (by unfold maxLen; omega)
    rw [← hG] at this
    unfold maxLen at this
    omega
  have hGi : ¬ (G = i) := by omega
  have hGim : ¬ (G = i + 1) := by omega
  have hci : ¬ (c = i) := by omega
  have hbN : b ≠ w.heap.size := by omega
  have hdl : (cs.drop (i * 2)).length = (n - i) * 2 := by rw [List.length_drop, hcl, Nat.sub_mul]
  have hcpB : ∀ (W : World), (∀ x, W.cell? x = (W1.setCells w.heap.size (i * 2) vs).cell? x) → (∀ x, W.frozen? x = (W1.setCells w.heap.size (i * 2) vs).frozen? x) → ∀ ty dc sc, (Builtin.copy_ #[54, 54] ty #[.slice (some ⟨w.heap.size, (i + 1) * 2, none⟩) (n - i) dc, .slice (some ⟨b, off + i * 2, none⟩) (n - i) sc]).run Try.prog W = .ok (goInt (n - i : Nat)) (W.setCells w.heap.size ((i + 1) * 2) (cs.drop (i * 2))) := fun W hWc hWf ty dc sc =>
    run_copyN W _ _ ty 88 w.heap.size ((i + 1) * 2) (n - i) dc ⟨b, off + i * 2, none⟩ (n - i) sc 2 (n - i) (cs.drop (i * 2)) t54 hsz (by simp only [Nat.min_def]; split <;> omega) hdl
      (fun j v hj => by
        rw [Addr.add_lit, hWc, World.cell?_setCells_out _ _ _ _ _ (fun h _ => absurd h hbN), Nat.add_assoc]
        exact hOb _ v (hcs (i * 2 + j) v (by rwa [List.getElem?_drop] at hj)))
      (fun j hj => by rw [hWc]; exact isSome_setC _ _ _ _ (fun t ht => hN _ (by rw [hvl] at ht; omega)) _ (hN _ (by rw [hdl] at hj; omega)))
      (fun j hj => by rw [hWf, World.frozen?_setCells]; exact hNf _) (fun v hv => h1c v (List.mem_of_mem_drop hv))
  subst hW1
  have hE1 : ∀ x, ((w.alloc (.cells ROW 88)).drew).cell? x = (w.drew.alloc (.cells ROW 88)).cell? x := fun x => rfl
  have hE2 : ∀ x, ((w.alloc (.cells ROW 88)).drew).frozen? x = (w.drew.alloc (.cells ROW 88)).frozen? x := fun x => rfl
  have hF1 : ∀ x, (((w.alloc (.cells ROW 88)).drew.setCells w.heap.size (i * 2) vs).drew).cell? x = ((w.drew.alloc (.cells ROW 88)).setCells w.heap.size (i * 2) vs).cell? x := fun x => rfl
  have hF2 : ∀ x, (((w.alloc (.cells ROW 88)).drew.setCells w.heap.size (i * 2) vs).drew).frozen? x = ((w.drew.alloc (.cells ROW 88)).setCells w.heap.size (i * 2) vs).frozen? x := fun x => rfl
  have hw1 : IntKind.i64.wrap ((i : Int) + (1 : Int)) = (i : Int) + (1 : Int) := by rw [IntKind.wrap_i64]; omega
  have hb1 : (0 : Int) ≤ (i : Int) + (1 : Int) := by omega
  have hin : i ≤ n := by omega
  have htn : ((i : Int) + (1 : Int)).toNat = i + 1 := by omega
  have hb3 : (i : Int) ≤ (n : Int) := by omega
  have mixed : Try.prog.follows Departure.mixedOrders = true := by kernel_rfl
  clear hkk hik hold hROW hG
  go_enter Try.func227, Try.ntmps227
  go_wp2_with (first
    | (at_builtin; refine Lib.wpList_append_run _ rfl _ _ _ _ rfl _ _ rfl rfl _ _ (hrz _) ?_)
    | (at_builtin; refine wpList_copyI _ rfl _ _ 54 54 rfl _ _ rfl rfl (hcpA _ hE1 hE2 _ _) ?_)
    | (at_builtin; refine wpList_copyI _ rfl _ _ 54 54 rfl _ _ rfl rfl (hcpB _ (fun _ => rfl) (fun _ => rfl) _ _ _) ?_))
  go_region_law_o (refine step_copyI rfl _ _ 54 54 rfl (.slice (some ⟨w.heap.size, (i + 1) * 2, none⟩) (n - i) (G - (i + 1))) (.slice (some ⟨b, off + i * 2, none⟩) (n - i) (c - i)) (by simp [Act.eval, Act.put]) (by simp [Act.eval, Act.put]) (hcpB _ hF1 hF2 3 (G - (i + 1)) (c - i)) ?_)
  go_wp2
  go_ret
  exact ⟨G, ROW, hGn, hRl, hRc, rfl, rfl⟩
end Go.Vm
namespace Go.Vm
open Go.Proofs Go.RowKit
set_option maxRecDepth 100000
set_option linter.unusedVariables false
set_option linter.unusedSimpArgs false

structure InsE (α : Type) where
  l : List α
  p : α
  hl : l.length ≤ 1000000
def cInsE {α : Type} (sz : Nat) (enc : α → List D) : Con := { X := InsE α, params := [(.take, false), (.rd, false), (.take, false)], res := [false], resOwn := true, ins := fun x => [[.row sz enc x.l], [.lf (.int .i64 x.l.length)], [.row sz enc [x.p]]], post := fun x outs r => outs = [] ∧ r = [[.row sz enc (x.l ++ [x.p])]] }
theorem ev_insPairE : ∀ x, evFnX tab [] (cInsE 2 RngX.ds) Try.f227 (body Try.f227) x := by
  rintro ⟨l, p, hl⟩
  replace hl : l.length ≤ 1000000 := hl
  conv => whnf
  refine ⟨Int.natCast_nonneg _, Int.le_refl _, Int.le_refl _, ?_⟩
  conv => whnf
  intro _
  conv => whnf
  intro _
  conv => whnf
  refine br2 (fun h1 => ?_) (fun h1 => ?_)
  · conv => whnf
    refine ⟨fun _ => rfl, [p], rfl, ?_, ?_⟩
    · show l.length + 1 ≤ 4294967296; omega
    conv => whnf
    exact ⟨⟨rfl, rfl⟩⟩
  · exfalso
    replace h1 : ((l.length : Int) == (l.length : Int)) = false := h1
    simp at h1
theorem insPairE_ok : FnOk Try.prog 227 (cInsE 2 RngX.ds) := fnOk_of fun x => fnX_at tab_ok (SOk.nil) mixed (fn := Try.f227) (code := body Try.f227) ⟨Try.func227, rfl, by kernel_rfl, by kernel_rfl, by kernel_rfl, by kernel_rfl⟩ (ev_insPairE x)
theorem insAt_end {α : Type} (l : List α) (p : α) : insAt l l.length p = l ++ [p] := by unfold insAt; simp
theorem ins_full {P : Program} {f : FuncId} {sz : Nat} {α : Type} {enc : α → List D} (hE : FnOk P f (cInsE sz enc)) (hM : ∀ x : InsX α, x.i < x.l.length → FnOkAt P f (cIns sz enc) x) : FnOk P f (cIns sz enc) := by
  refine fnOk_of fun x => ?_
  by_cases hx : x.i < x.l.length
  · exact hM x hx
  · obtain ⟨l, i, p, hi, hl⟩ := x
    obtain rfl : i = l.length := by
      have : ¬ i < l.length := hx
      omega
    intro w args R Kp Fs ha hD hcl hK hR
    have conv : ∀ v w', (∃ outs res N rs Hs Os, Out (cInsE sz enc) ⟨l, p, hl⟩ w args Kp Fs v w' outs res N rs Hs Os) → ∃ outs res N rs Hs Os, Out (cIns sz enc) ⟨l, l.length, p, hi, hl⟩ w args Kp Fs v w' outs res N rs Hs Os := by
      rintro v w' ⟨outs, res, N, rs, Hs, Os, o⟩
      refine ⟨outs, res, N, rs, Hs, Os, ⟨?_, o.shape, o.frame, o.new, o.res, o.ret, o.outs, o.dis, o.src, o.cl⟩⟩
      obtain ⟨h1, h2⟩ := o.post
      refine ⟨h1, h2.trans ?_⟩
      show [[D.row sz enc (l ++ [p])]] = [[D.row sz enc (insAt l l.length p)]]
      rw [insAt_end]
    rcases hE ⟨l, p, hl⟩ w args R Kp Fs ha hD hcl hK hR with ⟨fn, h1, h2, h3, h4⟩ | ⟨v, w', h1, h2⟩
    · exact .inl ⟨fn, h1, h2, h3, h4.mono fun e w' ⟨v, e1, ho⟩ => ⟨v, e1, conv v w' ho⟩⟩
    · exact .inr ⟨v, w', h1, conv v w' h2⟩
theorem shift2 : ShiftOk Try.prog 227 2 := fun b off n c i vb voff vc cs vs w h1 h2 h3 h4 h5 h6 h7 h8 h9 h10 h11 h12 tA tB kA kB h13 h14 h15 h16 h17 => ins2_shift b off n c i vb voff vc cs vs w h1 h2 h3 h4 h5 h6 h7 h8 h9 h10 h11 h12 tA tB kA kB h13 h14 h15 h16 h17
theorem grow2 : GrowOk Try.prog 227 2 88 := fun b off n c i vb voff vc cs vs w h1 h2 h3 h4 h5 h6 h7 h8 h9 h10 h11 h12 => ins2_grow b off n c i vb voff vc cs vs w h1 h2 h3 (by omega) h5 h6 h7 h8 h9 h10 h11 h12
theorem insPair_full : FnOk Try.prog 227 (cIns 2 RngX.ds) :=
  ins_full insPairE_ok fun x hx => ins_mid (sz := 2) (enc := RngX.ds) (fun _ => rfl) (by decide) ⟨Try.f227, by kernel_rfl, by kernel_rfl, by kernel_rfl⟩ shift2 grow2 x hx
theorem insPair_ok : FnOk Try.prog 227 (cIns 2 RngX.ds) := insPair_full
end Go.Vm
namespace Go.Vm
open Go.Proofs Go.RowKit Go.Lib
set_option linter.unusedVariables false
set_option linter.unusedSimpArgs false
set_option maxHeartbeats 4000000 in
set_option maxRecDepth 100000 in
theorem ins1_shift (b off n c i vb voff vc : Nat) (cs vs : List Value) (w : World) (hi : i < n) (hroom : n + 1 ≤ c) (hn63 : n + 1 ≤ 9223372036854775807) (hvb : vb ≠ b)
    (hcl : cs.length = n) (hvl : vs.length = 1)
    (hcs : ∀ j v, cs[j]? = some v → w.cell? ⟨b, off + j, none⟩ = some v) (hsp : ∀ j, j < (n + 1) → (w.cell? ⟨b, off + j, none⟩).isSome = true) (hfz : ∀ j, j < (n + 1) → w.frozen? ⟨b, off + j, none⟩ = false)
    (hvs : ∀ j v, vs[j]? = some v → w.cell? ⟨vb, voff + j, none⟩ = some v) (h1c : ∀ v ∈ cs, v.oneCell' = true) (h1v : ∀ v ∈ vs, v.oneCell' = true)
    (tA tB : TypeId) (kA kB : Nat) (hsa : w.shape? vb = some (tA, kA)) (hsb : w.shape? b = some (tB, kB)) (hkB : kB ≠ 0) (hfa : w.frozen? ⟨vb, voff, none⟩ = false) (hfe : w.frozen? ⟨vb, kA, none⟩ = false) :
    Calls Try.prog 226 #[.slice (some ⟨b, off, none⟩) n c, .int .i64 i, .slice (some ⟨vb, voff, none⟩) 1 vc] w fun e w' =>
      e = .returned (.slice (some ⟨b, off, none⟩) (n + 1) c) ∧ w' = (w.drew.setCells b (off + (i + 1)) (cs.drop (i))).setCells b (off + i) vs := by
  have t219 := Try.underlying219
  have u219 := run_underlying (P := Try.prog) t219
  have t3 := Try.underlying3
  have u3 := run_underlying (P := Try.prog) t3
  have hsz : (Try.prog.info? 164).map (·.size) = some 1 := by kernel_rfl
  have z164 : ∀ w, (Go.sizeOf 164).run Try.prog w = .ok 1 w := fun w => by
    cases hq : Try.prog.info? 164 with
    | none => rw [hq] at hsz; cases hsz
    | some i0 =>
      have hs0 : i0.size = 1 := by simpa [hq] using hsz
      simp [Go.sizeOf, typeInfo, hq, hs0]
  have hz2 : ¬ ((i : Int) = (n : Int)) := by omega
  have hov : ∀ lb cb, (callFunc 231 #[.slice (some ⟨vb, voff, none⟩) 1 vc, .slice (some ⟨b, off + (i + 1), none⟩) lb cb]).run Try.prog w = .ok (.value (.bool false)) w := fun lb cb => by
    rw [run_callFunc_extern (fn := Try.f231) (by kernel_rfl) (by kernel_rfl) (by kernel_rfl) (by kernel_rfl) (e := Extern.SlicesOverlaps.overlaps #[219, 219] #[4]) (by kernel_rfl),
      Lib.run_overlaps_apart w 219 4 164 t219 1 z164 ⟨vb, voff, none⟩ ⟨b, off + (i + 1), none⟩ 1 vc lb cb hvb tA tB kA kB hsa hsb hkB hfa hfe]
    rfl
  have hdl : (cs.drop (i)).length = (n - i) := by rw [List.length_drop, hcl]
  have hw1 : IntKind.i64.wrap ((i : Int) + (1 : Int)) = (i : Int) + (1 : Int) := by rw [IntKind.wrap_i64]; omega
  have hw2 : IntKind.i64.wrap ((n : Int) + (1 : Int)) = (n : Int) + (1 : Int) := by rw [IntKind.wrap_i64]; omega
  have hb1 : (0 : Int) ≤ (i : Int) + (1 : Int) := by omega
  have hin : i ≤ n := by omega
  have htn : ((i : Int) + (1 : Int)).toNat = i + 1 := by omega
  have hb2 : ¬ (c = i + 1) := by omega
  have hb3 : (i : Int) ≤ (n : Int) + (1 : Int) := by omega
  have hb4 : ¬ (c = i) := by omega
  have hcp1 : ∀ ty dc sc, (Builtin.copy_ #[219, 219] ty #[.slice (some ⟨b, off + (i + 1), none⟩) (n - i) dc, .slice (some ⟨b, off + i, none⟩) (n + 1 - i) sc]).run Try.prog w.drew = .ok (goInt (n - i : Nat)) (w.drew.setCells b (off + (i + 1)) (cs.drop (i))) := fun ty dc sc =>
    run_copyN w.drew _ _ ty 164 b (off + (i + 1)) (n - i) dc ⟨b, off + i, none⟩ (n + 1 - i) sc 1 (n - i) (cs.drop (i)) t219 hsz (by simp only [Nat.min_def]; split <;> omega) (by rw [hdl, Nat.mul_one])
      (fun j v hj => by rw [Addr.add_lit, Nat.add_assoc]; exact hcs (i + j) v (by rwa [List.getElem?_drop] at hj))
      (fun j hj => by rw [Nat.add_assoc]; exact hsp _ (by rw [hdl] at hj; omega)) (fun j hj => by rw [Nat.add_assoc]; exact hfz _ (by rw [hdl] at hj; omega)) (fun v hv => h1c v (List.mem_of_mem_drop hv))
  obtain ⟨W1, hW1⟩ : ∃ W1, W1 = w.drew.setCells b (off + (i + 1)) (cs.drop (i)) := ⟨_, rfl⟩
  have hsp1 : ∀ k, k < (n + 1) → (W1.cell? ⟨b, off + k, none⟩).isSome = true := fun k hk => by
    rw [hW1]
    exact isSome_setC b _ _ _ (fun j hj => by rw [Nat.add_assoc]; exact hsp _ (by rw [hdl] at hj; omega)) _ (hsp k hk)
  have hcp2 : ∀ (W : World), (∀ x, W.cell? x = W1.cell? x) → (∀ x, W.frozen? x = W1.frozen? x) → ∀ ty dc, (Builtin.copy_ #[219, 219] ty #[.slice (some ⟨b, off + i, none⟩) (n + 1 - i) dc, .slice (some ⟨vb, voff, none⟩) 1 vc]).run Try.prog W = .ok (goInt (1 : Nat)) (W.setCells b (off + i) vs) := fun W hWc hWf ty dc =>
    run_copyN W _ _ ty 164 b (off + i) (n + 1 - i) dc ⟨vb, voff, none⟩ 1 vc 1 1 vs t219 hsz (by simp only [Nat.min_def]; split <;> omega) (by rw [hvl])
      (fun j v hj => by
        rw [Addr.add_lit, hWc, hW1, World.cell?_setCells_out b _ _ _ _ (fun h _ => absurd h hvb)]
        exact hvs j v hj)
      (fun j hj => by rw [hWc, Nat.add_assoc]; exact hsp1 _ (by rw [hvl] at hj; omega)) (fun j hj => by rw [hWf, hW1, World.frozen?_setCells, Nat.add_assoc]; exact hfz _ (by rw [hvl] at hj; omega)) h1v
  rw [← hW1] at hcp1
  have mixed : Try.prog.follows Departure.mixedOrders = true := by kernel_rfl
  go_enter Try.func226, Try.ntmps226
  go_wp2_with (simp only [hov])
  go_region_law_o (refine step_copyI rfl _ _ 219 219 rfl _ _ (by simp [Act.eval, Act.put]) (by simp [Act.eval, Act.put]) (hcp1 _ _ _) ?_)
  go_wp2_with (at_builtin; refine wpList_copyI _ rfl _ _ 219 219 rfl _ _ rfl rfl (hcp2 _ (fun _ => rfl) (fun _ => rfl) _ _) ?_)
  go_ret
  first | exact ⟨rfl, rfl⟩ | exact ⟨rfl, by rw [hW1]⟩
end Go.Vm
namespace Go.Vm
open Go.Proofs Go.RowKit Go.Lib
set_option linter.unusedVariables false
set_option linter.unusedSimpArgs false
set_option maxHeartbeats 4000000 in
set_option maxRecDepth 100000 in
theorem ins1_grow (b off n c i vb voff vc : Nat) (cs vs : List Value) (w : World) (hi : i < n) (hnc : n ≤ c) (hroom : c < n + 1) (hbig : (n + 1) * 8 ≤ 140737488355328)
    (hcl : cs.length = n) (hvl : vs.length = 1) (hbw : b < w.heap.size) (hvw : vb < w.heap.size)
    (hcs : ∀ j v, cs[j]? = some v → w.cell? ⟨b, off + j, none⟩ = some v)
    (hvs : ∀ j v, vs[j]? = some v → w.cell? ⟨vb, voff + j, none⟩ = some v) (h1c : ∀ v ∈ cs, v.oneCell' = true) (h1v : ∀ v ∈ vs, v.oneCell' = true) :
    Calls Try.prog 226 #[.slice (some ⟨b, off, none⟩) n c, .int .i64 i, .slice (some ⟨vb, voff, none⟩) 1 vc] w fun e w' =>
      ∃ (G : Nat) (ROW : Array Value), n + 1 ≤ G ∧ ROW.size = G ∧ (∀ j v, j < i → cs[j]? = some v → ROW[j]? = some v) ∧ e = .returned (.slice (some ⟨w.heap.size, 0, none⟩) (n + 1) G) ∧
      w' = (((w.alloc (.cells ROW 164)).drew.setCells w.heap.size (i) vs).drew).setCells w.heap.size ((i + 1)) (cs.drop (i)) := by
  have t219 := Try.underlying219
  have u219 := run_underlying (P := Try.prog) t219
  have t3 := Try.underlying3
  have u3 := run_underlying (P := Try.prog) t3
  have hsz : (Try.prog.info? 164).map (·.size) = some 1 := by kernel_rfl
  have hby : (Try.prog.info? 164).map (·.bytes) = some 8 := by kernel_rfl
  have hze : (Try.prog.info? 164).bind (·.zero) = some (.pointer none) := by kernel_rfl
  obtain ⟨i0, hi0, hzs, hzb, hz0⟩ : ∃ i0, Try.prog.info? 164 = some i0 ∧ i0.size = 1 ∧ i0.bytes = 8 ∧ i0.zero = some (.pointer none) := by
    cases hq : Try.prog.info? 164 with
    | none => rw [hq] at hsz; cases hsz
    | some i0 => rw [hq] at hsz hby hze; exact ⟨i0, rfl, by simpa using hsz, by simpa using hby, by simpa using hze⟩
  have hz2 : ¬ ((i : Int) = (n : Int)) := by omega
  have hz3 : (c : Int) < (n : Int) + (1 : Int) := by omega
  have hkk : (n : Int) + (1 : Int) - (i : Int) = ((n + 1 - i : Nat) : Int) := by omega
  have hik : i + (n + 1 - i) = n + 1 := by omega
  have hold : (Builtin.firstCells i0.size i (.slice (some ⟨b, off, none⟩) i c)).run Try.prog w.drew = .ok (cs.take (i)).toArray w.drew := by
    rw [hzs]
    exact run_firstCells_some w.drew 1 i ⟨b, off, none⟩ i c (cs.take (i)) (by rw [List.length_take]; omega) (fun j v hj => by
      rw [Addr.add_lit]
      rw [List.getElem?_take] at hj
      split at hj
      · exact hcs j v hj
      · cases hj)
  have hrz : ∀ ty, (Builtin.append_ #[219, 3] ty #[.slice (some ⟨b, off, none⟩) i c, .int .i64 ((n : Int) + (1 : Int) - (i : Int))]).run Try.prog w =
      .ok (.slice (some ⟨w.heap.size, 0, none⟩) (n + 1) (grownCap w (n + 1) c 164)) (w.drew.alloc (.cells ((cs.take (i)).toArray ++ Builtin.zeroCells (Value.pointer none).cells (n + 1 - i) ++ Builtin.zeroCells (Value.pointer none).cells (grownCap w (n + 1) c 164 - (n + 1))) 164)) := fun ty => by
    have h := Lib.run_append_grow_zeros w 219 3 ty 164 i0 _ .i64 .i64 t219 t3 hi0 hz0 (some ⟨b, off, none⟩) i c (cs.take (i)) hold (n + 1 - i) (by omega) (by omega) (by omega) (by omega) (by rw [hzb]; omega) (by rw [hzb, hik]; exact growslice_fits hroom hbig)
    rw [hik] at h
    rw [hkk]
    exact h
  obtain ⟨G, hG⟩ : ∃ G, G = grownCap w (n + 1) c 164 := ⟨_, rfl⟩
  obtain ⟨ROW, hROW⟩ : ∃ ROW : Array Value, ROW = (cs.take (i)).toArray ++ Builtin.zeroCells (Value.pointer none).cells (n + 1 - i) ++ Builtin.zeroCells (Value.pointer none).cells (G - (n + 1)) := ⟨_, rfl⟩
  rw [← hG] at hrz
  rw [← hROW] at hrz
  have hGn : n + 1 ≤ G := by rw [hG]; exact grownCap_ge w _ _ _
  have hRl : ROW.size = G := by
    rw [hROW]
    simp [Builtin.zeroCells, Value.cells]
    omega
  have hRc : ∀ j v, j < i → cs[j]? = some v → ROW[j]? = some v := by
    intro j v hj hv
    have hjl : j < cs.length := (List.getElem?_eq_some_iff.1 hv).1
    rw [hROW, Array.getElem?_append_left (by simp; omega), Array.getElem?_append_left (by simp; omega), List.getElem?_toArray, List.getElem?_take, if_pos hj]
    exact hv
  obtain ⟨W1, hW1⟩ : ∃ W1, W1 = w.drew.alloc (.cells ROW 164) := ⟨_, rfl⟩
  rw [← hW1] at hrz
  have hN : ∀ j, j < (n + 1) → (W1.cell? ⟨w.heap.size, j, none⟩).isSome = true := fun j hj => by
    rw [hW1, World.cell?_alloc_at (w := w.drew) ROW _ w.heap.size j rfl, Array.getElem?_eq_getElem (by omega)]; rfl
  have hNf : ∀ j, W1.frozen? ⟨w.heap.size, j, none⟩ = false := fun j => by rw [hW1]; exact World.frozen?_alloc_at (w := w.drew) ROW _ w.heap.size j rfl
  have hOb : ∀ j v, w.cell? ⟨b, j, none⟩ = some v → W1.cell? ⟨b, j, none⟩ = some v := fun j v h => by rw [hW1, World.cell?_alloc_past (w := w.drew) _ b j hbw]; exact h
  have hOv : ∀ j v, w.cell? ⟨vb, j, none⟩ = some v → W1.cell? ⟨vb, j, none⟩ = some v := fun j v h => by rw [hW1, World.cell?_alloc_past (w := w.drew) _ vb j hvw]; exact h
  have hcpA : ∀ (W : World), (∀ x, W.cell? x = W1.cell? x) → (∀ x, W.frozen? x = W1.frozen? x) → ∀ ty dc, (Builtin.copy_ #[219, 219] ty #[.slice (some ⟨w.heap.size, i, none⟩) (n + 1 - i) dc, .slice (some ⟨vb, voff, none⟩) 1 vc]).run Try.prog W = .ok (goInt (1 : Nat)) (W.setCells w.heap.size (i) vs) := fun W hWc hWf ty dc =>
    run_copyN W _ _ ty 164 w.heap.size (i) (n + 1 - i) dc ⟨vb, voff, none⟩ 1 vc 1 1 vs t219 hsz (by simp only [Nat.min_def]; split <;> omega) (by rw [hvl])
      (fun j v hj => by rw [Addr.add_lit, hWc]; exact hOv _ v (hvs j v hj))
      (fun j hj => by rw [hWc]; exact hN _ (by rw [hvl] at hj; omega)) (fun j hj => by rw [hWf]; exact hNf _) h1v
  have hG63 : G ≤ 9223372036854775807 := by
    have := grownCap_le_maxLen w (n + 1) c 164 (by unfold maxLen; omega)
    rw [← hG] at this
    unfold maxLen at this
    omega
  have hGi : ¬ (G = i) := by omega
  have hGim : ¬ (G = i + 1) := by omega
  have hci : ¬ (c = i) := by omega
  have hbN : b ≠ w.heap.size := by omega
  have hdl : (cs.drop (i)).length = (n - i) := by rw [List.length_drop, hcl]
  have hcpB : ∀ (W : World), (∀ x, W.cell? x = (W1.setCells w.heap.size (i) vs).cell? x) → (∀ x, W.frozen? x = (W1.setCells w.heap.size (i) vs).frozen? x) → ∀ ty dc sc, (Builtin.copy_ #[219, 219] ty #[.slice (some ⟨w.heap.size, (i + 1), none⟩) (n - i) dc, .slice (some ⟨b, off + i, none⟩) (n - i) sc]).run Try.prog W = .ok (goInt (n - i : Nat)) (W.setCells w.heap.size ((i + 1)) (cs.drop (i))) := fun W hWc hWf ty dc sc =>
    run_copyN W _ _ ty 164 w.heap.size ((i + 1)) (n - i) dc ⟨b, off + i, none⟩ (n - i) sc 1 (n - i) (cs.drop (i)) t219 hsz (by simp only [Nat.min_def]; split <;> omega) (by rw [hdl, Nat.mul_one])
      (fun j v hj => by
        rw [Addr.add_lit, hWc, World.cell?_setCells_out _ _ _ _ _ (fun h _ => absurd h hbN), Nat.add_assoc]
        exact hOb _ v (hcs (i + j) v (by rwa [List.getElem?_drop] at hj)))
      (fun j hj => by rw [hWc]; exact isSome_setC _ _ _ _ (fun t ht => hN _ (by rw [hvl] at ht; omega)) _ (hN _ (by rw [hdl] at hj; omega)))
      (fun j hj => by rw [hWf, World.frozen?_setCells]; exact hNf _) (fun v hv => h1c v (List.mem_of_mem_drop hv))
  subst hW1
  have hE1 : ∀ x, ((w.alloc (.cells ROW 164)).drew).cell? x = (w.drew.alloc (.cells ROW 164)).cell? x := fun x => rfl
  have hE2 : ∀ x, ((w.alloc (.cells ROW 164)).drew).frozen? x = (w.drew.alloc (.cells ROW 164)).frozen? x := fun x => rfl
  have hF1 : ∀ x, (((w.alloc (.cells ROW 164)).drew.setCells w.heap.size (i) vs).drew).cell? x = ((w.drew.alloc (.cells ROW 164)).setCells w.heap.size (i) vs).cell? x := fun x => rfl
  have hF2 : ∀ x, (((w.alloc (.cells ROW 164)).drew.setCells w.heap.size (i) vs).drew).frozen? x = ((w.drew.alloc (.cells ROW 164)).setCells w.heap.size (i) vs).frozen? x := fun x => rfl
  have hw1 : IntKind.i64.wrap ((i : Int) + (1 : Int)) = (i : Int) + (1 : Int) := by rw [IntKind.wrap_i64]; omega
  have hb1 : (0 : Int) ≤ (i : Int) + (1 : Int) := by omega
  have hin : i ≤ n := by omega
  have htn : ((i : Int) + (1 : Int)).toNat = i + 1 := by omega
  have hb3 : (i : Int) ≤ (n : Int) := by omega
  have mixed : Try.prog.follows Departure.mixedOrders = true := by kernel_rfl
  clear hkk hik hold hROW hG
  go_enter Try.func226, Try.ntmps226
  go_wp2_with (first
    | (at_builtin; refine Lib.wpList_append_run _ rfl _ _ _ _ rfl _ _ rfl rfl _ _ (hrz _) ?_)
    | (at_builtin; refine wpList_copyI _ rfl _ _ 219 219 rfl _ _ rfl rfl (hcpA _ hE1 hE2 _ _) ?_)
    | (at_builtin; refine wpList_copyI _ rfl _ _ 219 219 rfl _ _ rfl rfl (hcpB _ (fun _ => rfl) (fun _ => rfl) _ _ _) ?_))
  go_region_law_o (refine step_copyI rfl _ _ 219 219 rfl (.slice (some ⟨w.heap.size, (i + 1), none⟩) (n - i) (G - (i + 1))) (.slice (some ⟨b, off + i, none⟩) (n - i) (c - i)) (by simp [Act.eval, Act.put]) (by simp [Act.eval, Act.put]) (hcpB _ hF1 hF2 3 (G - (i + 1)) (c - i)) ?_)
  go_wp2
  go_ret
  exact ⟨G, ROW, hGn, hRl, hRc, rfl, rfl⟩
end Go.Vm
namespace Go.Vm
open Go.Proofs Go.RowKit
set_option maxRecDepth 100000
set_option linter.unusedVariables false
set_option linter.unusedSimpArgs false

/-- The same where elements are told in many ways. -/
def cInsEF {α : Type} (sz : Nat) (enc : Nat → α → List D) : Con := { X := Nat × InsE α, params := [(.take, false), (.rd, false), (.take, false)], res := [false], resOwn := true, ins := fun x => [[.row sz (enc x.1) x.2.l], [.lf (.int .i64 x.2.l.length)], [.row sz (enc x.1) [x.2.p]]], post := fun x outs r => outs = [] ∧ r = [[.row sz (enc x.1) (x.2.l ++ [x.2.p])]] }
def cInsF {α : Type} (sz : Nat) (enc : Nat → α → List D) : Con := { X := Nat × InsX α, params := [(.take, false), (.rd, false), (.take, false)], res := [false], resOwn := true, ins := fun x => [[.row sz (enc x.1) x.2.l], [.lf (.int .i64 x.2.i)], [.row sz (enc x.1) [x.2.p]]], post := fun x outs r => outs = [] ∧ r = [[.row sz (enc x.1) (insAt x.2.l x.2.i x.2.p)]] }
theorem ev_insTwE : ∀ x, evFnX tab [] (cInsEF 1 twE) Try.f226 (body Try.f226) x := by
  rintro ⟨n, l, p, hl⟩
  replace hl : l.length ≤ 1000000 := hl
  conv => whnf
  refine ⟨Int.natCast_nonneg _, Int.le_refl _, Int.le_refl _, ?_⟩
  conv => whnf
  intro _
  conv => whnf
  intro _
  conv => whnf
  refine br2 (fun h1 => ?_) (fun h1 => ?_)
  · conv => whnf
    refine ⟨[p], rfl, ?_, ?_⟩
    · show l.length + 1 ≤ 4294967296; omega
    conv => whnf
    exact ⟨⟨rfl, rfl⟩⟩
  · exfalso
    replace h1 : ((l.length : Int) == (l.length : Int)) = false := h1
    simp at h1
theorem insTwE_ok : FnOk Try.prog 226 (cInsEF 1 twE) := fnOk_of fun x => fnX_at tab_ok (SOk.nil) mixed (fn := Try.f226) (code := body Try.f226) ⟨Try.func226, rfl, by kernel_rfl, by kernel_rfl, by kernel_rfl, by kernel_rfl⟩ (ev_insTwE x)
theorem insE_of {P : Program} {f : FuncId} {sz : Nat} {α : Type} {enc : Nat → α → List D} (h : FnOk P f (cInsEF sz enc)) (n : Nat) : FnOk P f (cInsE sz (enc n)) := by
  intro x w args R Kp Fs ha hD hcl hK hR
  have conv : ∀ v w', (∃ outs res N rs Hs Os, Out (cInsEF sz enc) (n, x) w args Kp Fs v w' outs res N rs Hs Os) → ∃ outs res N rs Hs Os, Out (cInsE sz (enc n)) x w args Kp Fs v w' outs res N rs Hs Os := by
    rintro v w' ⟨outs, res, N, rs, Hs, Os, o⟩
    exact ⟨outs, res, N, rs, Hs, Os, ⟨o.post, o.shape, o.frame, o.new, o.res, o.ret, o.outs, o.dis, o.src, o.cl⟩⟩
  rcases h (n, x) w args R Kp Fs ha hD hcl hK hR with ⟨fn, h1, h2, h3, h4⟩ | ⟨v, w', h1, h2⟩
  · exact .inl ⟨fn, h1, h2, h3, h4.mono fun e w' ⟨v, e1, ho⟩ => ⟨v, e1, conv v w' ho⟩⟩
  · exact .inr ⟨v, w', h1, conv v w' h2⟩
theorem insF_of {P : Program} {f : FuncId} {sz : Nat} {α : Type} {enc : Nat → α → List D} (h : ∀ n, FnOk P f (cIns sz (enc n))) : FnOk P f (cInsF sz enc) := by
  rintro ⟨n, x⟩ w args R Kp Fs ha hD hcl hK hR
  have conv : ∀ v w', (∃ outs res N rs Hs Os, Out (cIns sz (enc n)) x w args Kp Fs v w' outs res N rs Hs Os) → ∃ outs res N rs Hs Os, Out (cInsF sz enc) (n, x) w args Kp Fs v w' outs res N rs Hs Os := by
    rintro v w' ⟨outs, res, N, rs, Hs, Os, o⟩
    exact ⟨outs, res, N, rs, Hs, Os, ⟨o.post, o.shape, o.frame, o.new, o.res, o.ret, o.outs, o.dis, o.src, o.cl⟩⟩
  rcases h n x w args R Kp Fs ha hD hcl hK hR with ⟨fn, h1, h2, h3, h4⟩ | ⟨v, w', h1, h2⟩
  · exact .inl ⟨fn, h1, h2, h3, h4.mono fun e w' ⟨v, e1, ho⟩ => ⟨v, e1, conv v w' ho⟩⟩
  · exact .inr ⟨v, w', h1, conv v w' h2⟩
theorem shift1 : ShiftOk Try.prog 226 1 := fun b off n c i vb voff vc cs vs w h1 h2 h3 h4 h5 h6 h7 h8 h9 h10 h11 h12 tA tB kA kB h13 h14 h15 h16 h17 => by
  rw [Nat.mul_one] at h5
  rw [Nat.mul_one, Nat.mul_one]
  exact ins1_shift b off n c i vb voff vc cs vs w h1 h2 h3 h4 h5 h6 h7 (fun j hj => h8 j (by omega)) (fun j hj => h9 j (by omega)) h10 h11 h12 tA tB kA kB h13 h14 h15 h16 h17
theorem grow1 : GrowOk Try.prog 226 1 164 := fun b off n c i vb voff vc cs vs w h1 h2 h3 h4 h5 h6 h7 h8 h9 h10 h11 h12 => by
  rw [Nat.mul_one] at h5
  refine (ins1_grow b off n c i vb voff vc cs vs w h1 h2 h3 (by omega) h5 h6 h7 h8 h9 h10 h11 h12).mono fun e w' ⟨G, ROW, g1, g2, g3, g4, g5⟩ => ⟨G, ROW, g1, by rw [Nat.mul_one]; exact g2, fun j v hj => g3 j v (by omega), g4, ?_⟩
  rw [Nat.mul_one, Nat.mul_one]; exact g5
theorem insTw_full : FnOk Try.prog 226 (cInsF 1 twE) :=
  insF_of fun n => ins_full (insE_of insTwE_ok n) fun x hx => ins_mid (sz := 1) (enc := twE n) (twE_len n) (by decide) ⟨Try.f226, by kernel_rfl, by kernel_rfl, by kernel_rfl⟩ shift1 grow1 x hx
theorem insTw_ok : FnOk Try.prog 226 (cInsF 1 twE) := insTw_full
end Go.Vm
namespace Go.Vm
open Go.Proofs
set_option maxRecDepth 100000
set_option linter.unusedVariables false
set_option linter.unusedSimpArgs false

structure PutS where
  n : Nat
  x : Tw
  b : Bool
  d : Nat
  h : x = .mk [] [] ∧ d = 1 ∨ Shp b d x
  hn : d ≤ n
  p : RngX
  hs : Srt x.all
theorem insL_end {p : RngX} {l : List RngX} (h : ∀ a ∈ l, strLt a.lo p.lo = true) : insL p l = l ++ [p] := by
  have := insL_front (p := p) (A := l) (B := []) h
  rwa [List.append_nil] at this
/-- What the loop over a leaf's pairs has come to. -/
structure InsI (p : RngX) (l : List RngX) (i : Nat) (done : Bool) (out : List RngX) : Prop where
  no : done = false → out = l.take i ∧ ∀ a ∈ l.take i, strLt a.lo p.lo = true
  yes : done = true → out = insL p (l.take i) ∧ ∀ j x, i ≤ j → l[j]? = some x → strLt p.lo x.lo = true
theorem srt_get {l : List RngX} (h : Srt l) {i j : Nat} {x y : RngX} (hij : i < j) (hx : l[i]? = some x) (hy : l[j]? = some y) : strLt x.lo y.lo = true := by
  obtain ⟨h1, rfl⟩ := List.getElem?_eq_some_iff.1 hx
  obtain ⟨h2, rfl⟩ := List.getElem?_eq_some_iff.1 hy
  exact List.pairwise_iff_getElem.1 h i j h1 h2 hij
theorem InsI.skip {p : RngX} {l : List RngX} {i : Nat} {out : List RngX} (h : InsI p l i false out) {x : RngX} (hx : l[i]? = some x) (hlt : strLt x.lo p.lo = true) : InsI p l (i + 1) false (out ++ [x]) := by
  obtain ⟨h1, h2⟩ := h.no rfl
  refine ⟨fun _ => ⟨?_, fun a ha => ?_⟩, fun h => by cases h⟩
  · rw [List.take_add_one, hx, h1]; rfl
  · rw [List.take_add_one, hx] at ha
    simp at ha
    rcases ha with ha | rfl
    · exact h2 a ha
    · exact hlt
theorem InsI.hit {p : RngX} {l : List RngX} {i : Nat} {out : List RngX} (h : InsI p l i false out) (hs : Srt l) {x : RngX} (hx : l[i]? = some x) (heq : x.lo = p.lo) : InsI p l (i + 1) true (out ++ [p]) := by
  obtain ⟨h1, h2⟩ := h.no rfl
  refine ⟨fun h => (by cases h), fun _ => ⟨?_, fun j y hj hy => ?_⟩⟩
  · rw [List.take_add_one, hx, h1]
    show _ = insL p (l.take i ++ [x])
    rw [insL_front h2]
    simp [insL, heq, strLt_irrefl]
  · rw [← heq]; exact srt_get hs (by omega) hx hy
theorem InsI.new {p : RngX} {l : List RngX} {i : Nat} {out : List RngX} (h : InsI p l i false out) (hs : Srt l) {x : RngX} (hx : l[i]? = some x) (hlt : strLt p.lo x.lo = true) : InsI p l (i + 1) true (out ++ [p] ++ [x]) := by
  obtain ⟨h1, h2⟩ := h.no rfl
  refine ⟨fun h => (by cases h), fun _ => ⟨?_, fun j y hj hy => ?_⟩⟩
  · rw [List.take_add_one, hx, h1]
    show _ = insL p (l.take i ++ [x])
    rw [insL_front h2]
    simp [insL, lt_asym hlt, hlt]
  · exact strLt_trans hlt (srt_get hs (by omega) hx hy)
theorem InsI.more {p : RngX} {l : List RngX} {i : Nat} {out : List RngX} (h : InsI p l i true out) {x : RngX} (hx : l[i]? = some x) : InsI p l (i + 1) true (out ++ [x]) ∧ x.lo ≠ p.lo := by
  obtain ⟨h1, h2⟩ := h.yes rfl
  refine ⟨⟨fun h => (by cases h), fun _ => ⟨?_, fun j y hj hy => h2 j y (by omega) hy⟩⟩, fun e => ?_⟩
  · rw [List.take_add_one, hx, h1]
    show _ = insL p (l.take i ++ [x])
    rw [insL_back (.inr (h2 i x (Nat.le_refl _) hx))]
  · have := h2 i x (Nat.le_refl _) hx
    rw [e, strLt_irrefl] at this; cases this
theorem InsI.all {p : RngX} {l : List RngX} {done : Bool} {out : List RngX} (h : InsI p l l.length done out) : (if done then out else out ++ [p]) = insL p l := by
  cases done with
  | false =>
    obtain ⟨h1, h2⟩ := h.no rfl
    rw [List.take_length] at h1 h2
    rw [insL_end h2, h1]; rfl
  | true =>
    have h1 := (h.yes rfl).1
    rw [List.take_length] at h1
    rw [h1]; rfl
theorem InsI.len {p : RngX} {l : List RngX} {i : Nat} {done : Bool} {out : List RngX} (h : InsI p l i done out) (hi : i ≤ l.length) : out.length ≤ l.length + 1 := by
  cases done with
  | false => rw [(h.no rfl).1, List.length_take]; omega
  | true => rw [(h.yes rfl).1]; have := (insL_len p (l.take i)).2.1; rw [List.length_take] at this; omega
def cSPut : Con := keepC PutS [(.keep, true), (.rd, true)] [false] (fun t => [subE t.n t.x, t.p.ds]) (fun t r => r = [[.row 3 (subE t.n) (two (t.x.put t.d t.p))]])
theorem ev_sPut : ∀ n x, (fun a => a.d) x = n → evFnX tab [(154, cSPut.below (fun a => a.d) n), (1000004, cGh), (198, (keepC SplX [(.keep, true)] [false] (fun t => [subE (t.n + 1) t.x]) (fun t r => r = [[.row 3 (subE (t.n + 1)) (splitT t.x)]]))), (193, cWay)] cSPut Try.f154 (body Try.f154) x := by
  rintro N ⟨n, ⟨ps, ks⟩, b, d, h, hn, p, hs⟩ rfl
  have hpos : 1 ≤ d := by rcases h with ⟨_, rfl⟩ | h; exact Nat.le_refl _; exact h.pos
  obtain ⟨n, rfl⟩ : ∃ m, n = m + 1 := ⟨n - 1, by omega⟩
  cases ks with
  | nil =>
    have hd : d = 1 := by rcases h with ⟨_, rfl⟩ | h; rfl; cases h; rfl; rename_i h1 _ _; simp at h1
    have hps : ps.length ≤ 4 := by rcases h with ⟨h, _⟩ | h; cases h; simp; cases h; assumption; rename_i h1 _ _; simp at h1
    replace hs : Srt ps := by simpa [Tw.all, Tw.alls] using hs
    subst hd
    conv => whnf
    refine ⟨[.row 208], ?_⟩
    conv => whnf
    refine ⟨RngX, RngX.ds, [], fun _ => rfl, rfl, ?_⟩
    conv => whnf
    intro _
    conv => whnf
    let S0 : Nat → Bool → Sl := fun i done => [(17, .lf (.int .i64 i)), (16, .lf (.int .i64 ps.length)), (15, .sl 0 none), (6, .lf (.bool done)), (5, .sl 208 none), (3, .pt 48 0 0)]
    let H0 : List RngX → Hp := fun out => [(208, some (.row .own 2 RngX.ds out)), (48, some (.arr true 2 [[.lf (.string p.lo), .lf (.string p.hi)]])), (0, some (.row .ro 2 RngX.ds ps))]
    refine ⟨fun m s h => ∃ (i : Nat) (done : Bool) (out : List RngX), i ≤ ps.length ∧ InsI p ps i done out ∧ m = ps.length - i ∧ s = S0 i done ∧ h = H0 out, ps.length, [(208, 208), (48, 48), (0, 0)], S0 0 false, H0 [], ⟨rfl, ⟨rfl, rfl, rfl, rfl, rfl, rfl, trivial⟩, rfl, rfl, rfl, trivial⟩,
      ⟨0, false, [], by omega, ⟨fun _ => ⟨rfl, fun a ha => by simp at ha⟩, fun h => (by cases h)⟩, by omega, rfl, rfl⟩, ?_⟩
    rintro m _ _ ⟨i, done, out, g1, g2, rfl, rfl, rfl⟩
    have hlen := g2.len g1
    conv => whnf
    refine br2 (fun h5 => ?_) (fun h5 => ?_)
    · have hi : i < ps.length := by have := of_decide_eq_true h5; omega
      obtain ⟨x, hx⟩ := getL hi
      have step : ∀ {s' : Sl} {h' : Hp} (ρ : List (Nat × Nat)) (done' : Bool) (out' : List RngX), InsI p ps (i + 1) done' out' → Le ρ (S0 (i + 1) done') (H0 out') s' h' →
          ∃ m' ρ s'' h'', m' < ps.length - i ∧ Le ρ s'' h'' s' h' ∧ ∃ (i : Nat) (done : Bool) (out : List RngX), i ≤ ps.length ∧ InsI p ps i done out ∧ m' = ps.length - i ∧ s'' = S0 i done ∧ h'' = H0 out := fun ρ done' out' h1 hle =>
        ⟨ps.length - (i + 1), ρ, _, _, by omega, hle, i + 1, done', out', by omega, h1, rfl, rfl, rfl⟩
      have hinc := incI hi (show ps.length ≤ 9223372036854775807 by omega)
      cases done with
      | false =>
        conv => whnf
        refine ⟨Int.natCast_nonneg _, ltI hx, ?_⟩
        conv => whnf
        refine ex2 _ (nthI hx) ?_
        conv => whnf
        refine br2 (fun h6 => ?_) (fun h6 => ?_)
        · conv => whnf
          refine ⟨[p], rfl, ?_, ?_⟩
          · show out.length + 1 ≤ 4294967296; omega
          conv => whnf
          refine br2 (fun h7 => ?_) (fun h7 => ?_)
          · have h7' : x.lo ≠ p.lo := by
              replace h7 : (!strEq x.lo p.lo) = true := h7
              rw [Bool.not_eq_true', strEq_no] at h7; exact h7
            have hlt : strLt p.lo x.lo = true := by
              replace h6 : (strLt p.lo x.lo || strEq p.lo x.lo) = true := h6
              rw [Bool.or_eq_true, strEq_iff] at h6
              rcases h6 with h | h
              · exact h
              · exact absurd h.symm h7'
            conv => whnf
            refine ⟨[x], rfl, ?_, ?_⟩
            · show (out ++ [p]).length + 1 ≤ 4294967296; rw [List.length_append]; simp; omega
            conv => whnf
            exact step [(672, 208), (48, 48), (0, 0)] true _ (g2.new hs hx hlt) ⟨rfl, ⟨hinc, rfl, rfl, rfl, rfl, rfl, trivial⟩, rfl, rfl, rfl, trivial⟩
          · have h7' : x.lo = p.lo := by
              replace h7 : (!strEq x.lo p.lo) = false := h7
              rw [Bool.not_eq_false', strEq_iff] at h7; exact h7
            conv => whnf
            exact step [(528, 208), (48, 48), (0, 0)] true _ (g2.hit hs hx h7') ⟨rfl, ⟨hinc, rfl, rfl, rfl, rfl, rfl, trivial⟩, rfl, rfl, rfl, trivial⟩
        · have hlt := nle_strLt h6
          conv => whnf
          refine br2 (fun h7 => ?_) (fun h7 => ?_)
          · conv => whnf
            refine ⟨[x], rfl, ?_, ?_⟩
            · show out.length + 1 ≤ 4294967296; omega
            conv => whnf
            exact step [(672, 208), (48, 48), (0, 0)] false _ (g2.skip hx hlt) ⟨rfl, ⟨hinc, rfl, rfl, rfl, rfl, rfl, trivial⟩, rfl, rfl, rfl, trivial⟩
          · exfalso
            replace h7 : (!strEq x.lo p.lo) = false := h7
            rw [Bool.not_eq_false', strEq_iff] at h7
            replace hlt : strLt x.lo p.lo = true := hlt
            rw [h7, strLt_irrefl] at hlt; cases hlt
      | true =>
        obtain ⟨q1, q2⟩ := g2.more hx
        conv => whnf
        refine ⟨Int.natCast_nonneg _, ltI hx, ?_⟩
        conv => whnf
        refine ex2 _ (nthI hx) ?_
        conv => whnf
        refine br2 (fun h7 => ?_) (fun h7 => ?_)
        · conv => whnf
          refine ⟨[x], rfl, ?_, ?_⟩
          · show out.length + 1 ≤ 4294967296; omega
          conv => whnf
          exact step [(672, 208), (48, 48), (0, 0)] true _ q1 ⟨rfl, ⟨hinc, rfl, rfl, rfl, rfl, rfl, trivial⟩, rfl, rfl, rfl, trivial⟩
        · exfalso
          replace h7 : (!strEq x.lo p.lo) = false := h7
          rw [Bool.not_eq_false', strEq_iff] at h7
          exact q2 h7
    · have hi : i = ps.length := by have := of_decide_eq_false h5; omega
      subst hi
      have hall := g2.all
      cases done with
      | false =>
        replace hall : out ++ [p] = insL p ps := hall
        conv => whnf
        refine ⟨[p], rfl, ?_, ?_⟩
        · show out.length + 1 ≤ 4294967296; omega
        conv => whnf
        refine ⟨3, Tw, subE n, subE_len n, ?_⟩
        conv => whnf
        refine ⟨⟨n, .mk (out ++ [p]) [], .inl rfl, (by show (out ++ [p]).length ≤ 4294967296; rw [List.length_append]; simp; omega), by show 0 ≤ 4294967296; omega⟩, rfl, ?_⟩
        rintro _ _ ⟨rfl, rfl⟩
        conv => whnf
        refine ⟨⟨rfl, ?_⟩⟩
        show [[D.row 3 (subE (n + 1)) (two (splitP (out ++ [p])))]] = [[D.row 3 (subE (n + 1)) (two (splitP (insL p ps)))]]
        rw [hall]
      | true =>
        replace hall : out = insL p ps := hall
        conv => whnf
        refine ⟨3, Tw, subE n, subE_len n, ?_⟩
        conv => whnf
        refine ⟨⟨n, .mk out [], .inl rfl, (by show out.length ≤ 4294967296; omega), by show 0 ≤ 4294967296; omega⟩, rfl, ?_⟩
        rintro _ _ ⟨rfl, rfl⟩
        conv => whnf
        refine ⟨⟨rfl, ?_⟩⟩
        show [[D.row 3 (subE (n + 1)) (two (splitP out))]] = [[D.row 3 (subE (n + 1)) (two (splitP (insL p ps)))]]
        rw [hall]
  | cons k ks =>
    replace h : Shp b d (.mk ps (k :: ks)) := by rcases h with ⟨h, _⟩ | h; cases h; exact h
    cases h with
    | node h1 h2 h3 =>
    rename_i d
    replace hs : Srt (Tw.alls (k :: ks)) := by simpa [Tw.all] using hs
    have hn' : d ≤ n := by omega
    conv => whnf
    refine ⟨⟨n, k :: ks, d, h3, hn', h2, by simp, p.lo⟩, rfl, ?_⟩
    rintro _ _ ⟨rfl, i, rfl, w⟩
    replace w : Way (k :: ks) p.lo i := w
    have hi := w.lt
    obtain ⟨y, hy⟩ := getL hi
    have hys := h3 y (List.mem_of_getElem? hy)
    have hyp := hys.pos
    obtain ⟨n, rfl⟩ : ∃ m, n = m + 1 := ⟨n - 1, by omega⟩
    have hsy : Srt y.all := by
      rw [Tw.alls_at hy, Srt.app, Srt.app] at hs
      exact hs.2.1.1
    have hwi : wayI (k :: ks) p.lo = i := (wayI_way (by simp)).uniq w hs h3
    obtain ⟨us, is⟩ := y
    conv => whnf
    refine ⟨by decide, Int.natCast_nonneg _, (show (i : Int) ≤ ((k :: ks).length : Int) by omega), ?_⟩
    conv => whnf
    refine ⟨false, ?_⟩
    conv => whnf
    refine ⟨Tw, subE (n + 1), [], subE_len _, rfl, ?_⟩
    conv => whnf
    refine ⟨((k :: ks).drop 0).take ((i : Int) - 0).toNat, rfl, ?_, ?_⟩
    · show 0 + (((k :: ks).drop 0).take ((i : Int) - 0).toNat).length ≤ 4294967296
      rw [List.length_take, List.length_drop]; omega
    conv => whnf
    refine ⟨Int.natCast_nonneg _, ltI hy, ?_⟩
    conv => whnf
    refine ex2 _ (nthI hy) ?_
    conv => whnf
    refine ⟨⟨⟨n + 1, .mk us is, false, d, .inr hys, hn', p, hsy⟩, Nat.lt_succ_self _⟩, rfl, ?_⟩
    rintro _ _ ⟨rfl, rfl⟩
    conv => whnf
    repeat ((first | refine rc_i rfl ?_ | refine rc_i (fun _ => rfl) ?_); conv => whnf)
    have hw1 : IntKind.i64.wrap ((i : Int) + 1) = (i : Int) + 1 := w64 (by omega) (by omega)
    have h2' : (k :: ks).length ≤ 4 := h2
    refine ⟨two ((Tw.mk us is).put d p), rfl, ?_, ?_⟩
    · show ([] ++ ((k :: ks).drop 0).take ((i : Int) - 0).toNat).length + (two ((Tw.mk us is).put d p)).length ≤ 4294967296
      have := (two_len ((Tw.mk us is).put d p)).2
      rw [List.nil_append, List.length_take, List.length_drop]; omega
    conv => whnf
    refine ⟨(show 0 ≤ IntKind.i64.wrap ((i : Int) + 1) by rw [hw1]; omega), (show IntKind.i64.wrap ((i : Int) + 1) ≤ ((k :: ks).length : Int) by rw [hw1]; omega), Int.le_refl _, ?_⟩
    conv => whnf
    have hA : ((k :: ks).drop 0).take ((i : Int) - 0).toNat = (k :: ks).take i := by rw [List.drop_zero, show ((i : Int) - 0).toNat = i by omega]
    have hB : ((k :: ks).drop (IntKind.i64.wrap ((i : Int) + 1)).toNat).take (((k :: ks).length : Int) - IntKind.i64.wrap ((i : Int) + 1)).toNat = (k :: ks).drop (i + 1) := by
      rw [hw1, show ((i : Int) + 1).toNat = i + 1 by omega]
      exact List.take_of_length_le (by rw [List.length_drop]; omega)
    have hT := (two_len ((Tw.mk us is).put d p)).2
    have hsum : [] ++ ((k :: ks).drop 0).take ((i : Int) - 0).toNat ++ two ((Tw.mk us is).put d p) ++ ((k :: ks).drop (IntKind.i64.wrap ((i : Int) + 1)).toNat).take (((k :: ks).length : Int) - IntKind.i64.wrap ((i : Int) + 1)).toNat = (k :: ks).take i ++ (two ((Tw.mk us is).put d p) ++ (k :: ks).drop (i + 1)) := by
      rw [hA, hB, List.nil_append, List.append_assoc]
    have hne : (k :: ks).take i ++ (two ((Tw.mk us is).put d p) ++ (k :: ks).drop (i + 1)) ≠ [] := by
      intro e
      have := congrArg List.length e
      have := (two_len ((Tw.mk us is).put d p)).1
      simp only [List.length_append, List.length_nil] at *; omega
    refine ⟨((k :: ks).drop (IntKind.i64.wrap ((i : Int) + 1)).toNat).take (((k :: ks).length : Int) - IntKind.i64.wrap ((i : Int) + 1)).toNat, rfl, ?_, ?_⟩
    · show ([] ++ ((k :: ks).drop 0).take ((i : Int) - 0).toNat ++ two ((Tw.mk us is).put d p)).length + _ ≤ 4294967296
      rw [hA, hB, List.nil_append, List.length_append, List.length_take, List.length_drop]; omega
    conv => whnf
    refine ⟨2, RngX, RngX.ds, fun _ => rfl, ?_⟩
    conv => whnf
    refine ⟨⟨n + 1, .mk [] ((k :: ks).take i ++ (two ((Tw.mk us is).put d p) ++ (k :: ks).drop (i + 1))), .inr rfl, by show 0 ≤ 4294967296; omega, ?_⟩, ?_, ?_⟩
    · show ((k :: ks).take i ++ (two ((Tw.mk us is).put d p) ++ (k :: ks).drop (i + 1))).length ≤ 4294967296
      simp only [List.length_append, List.length_take, List.length_drop]; omega
    · show [[D.lf (.bool ((k :: ks).take i ++ (two ((Tw.mk us is).put d p) ++ (k :: ks).drop (i + 1))).isEmpty), D.row 2 RngX.ds [], D.row 3 (subE (n + 1)) ((k :: ks).take i ++ (two ((Tw.mk us is).put d p) ++ (k :: ks).drop (i + 1)))]] = [[D.lf (.bool false), D.row 2 RngX.ds [], D.row 3 (subE (n + 1)) ([] ++ ((k :: ks).drop 0).take ((i : Int) - 0).toNat ++ two ((Tw.mk us is).put d p) ++ ((k :: ks).drop (IntKind.i64.wrap ((i : Int) + 1)).toNat).take (((k :: ks).length : Int) - IntKind.i64.wrap ((i : Int) + 1)).toNat)]]
      rw [hsum]
      cases e : (k :: ks).take i ++ (two ((Tw.mk us is).put d p) ++ (k :: ks).drop (i + 1)) with
      | nil => exact absurd e hne
      | cons => rfl
    rintro _ _ ⟨rfl, rfl⟩
    conv => whnf
    refine ⟨⟨rfl, ?_⟩⟩
    show [[D.row 3 (subE (n + 1 + 1)) (splitT (.mk [] ((k :: ks).take i ++ (two ((Tw.mk us is).put d p) ++ (k :: ks).drop (i + 1)))))]] = [[D.row 3 (subE (n + 1 + 1)) (two (Tw.put (d + 1) (.mk [] (k :: ks)) p))]]
    rw [put_node hwi hy]
    cases e : (k :: ks).take i ++ (two ((Tw.mk us is).put d p) ++ (k :: ks).drop (i + 1)) with
    | nil => exact absurd e hne
    | cons => rfl
theorem sPut_ok : FnOk Try.prog 154 cSPut := fn_rec (fun a => a.d) fun n hs x hx => fnX_at tab_ok (SOk.cons hs (SOk.cons gh_ok (SOk.cons sSplit_ok (SOk.cons sWay_ok SOk.nil)))) mixed (fn := Try.f154) (code := body Try.f154) ⟨Try.func154, rfl, by kernel_rfl, by kernel_rfl, by kernel_rfl, by kernel_rfl⟩ (ev_sPut n x hx)
end Go.Vm
namespace Go.Vm
open Go.Proofs
set_option maxRecDepth 100000
set_option linter.unusedVariables false
set_option linter.unusedSimpArgs false

theorem insL_hit {p x : RngX} {l : List RngX} {i : Nat} (h : ∀ a ∈ l.take i, strLt a.lo p.lo = true) (hx : l[i]? = some x) (he : x.lo = p.lo) : insL p l = l.set i p := by
  have hi := (List.getElem?_eq_some_iff.1 hx).1
  have e := at_split hx
  have e2 : l.set i p = l.take i ++ p :: l.drop (i + 1) := by
    conv => lhs; rw [e]
    rw [List.set_append_right _ _ (by rw [List.length_take]; omega), List.length_take, show i - min i l.length = 0 by omega]; rfl
  rw [e2]
  conv => lhs; rw [e]
  rw [insL_front h]
  simp [insL, he, strLt_irrefl]
theorem insL_mid {p x : RngX} {l : List RngX} {i : Nat} (h : ∀ a ∈ l.take i, strLt a.lo p.lo = true) (hx : l[i]? = some x) (hl : strLt p.lo x.lo = true) : insL p l = insAt l i p := by
  have e := at_split hx
  have hd : l.drop i = x :: l.drop (i + 1) := List.drop_eq_getElem_cons (List.getElem?_eq_some_iff.1 hx).1 ▸ by rw [(List.getElem?_eq_some_iff.1 hx).2]
  conv => lhs; rw [e]
  rw [insL_front h]
  unfold insAt
  rw [hd]
  simp [insL, lt_asym hl, hl]
theorem insL_last {p : RngX} {l : List RngX} (h : ∀ a ∈ l.take l.length, strLt a.lo p.lo = true) : insL p l = insAt l l.length p := by
  rw [List.take_length] at h
  rw [insAt_end, insL_end h]
/-- A node, or none any more. -/
def twOE (n : Nat) : Option Tw → List D
  | none => [.dead]
  | some x => twE n x
theorem twOE_len (n : Nat) (o : Option Tw) : (twOE n o).length = 1 := by cases o <;> first | rfl | exact twE_len _ _
structure PutI where
  n : Nat
  x : Tw
  b : Bool
  d : Nat
  h : Shp b d x
  hn : d ≤ n
  p : RngX
  hs : Srt x.all
def cPutI : Con := { X := PutI, params := [(.mut, false), (.rd, true)], res := [false], resOwn := true, ins := fun a => [twE a.n a.x, a.p.ds], post := fun a outs r => ∃ u j, outs = [twE a.n (.mk u j)] ∧ (a.x.put a.d a.p = (.mk u j, none) ∧ r = [[.lf (.pointer none)]] ∨ ∃ u2 j2, a.x.put a.d a.p = (.mk u j, some (.mk u2 j2)) ∧ r = [twE a.n (.mk u2 j2)]) }
theorem ev_put : ∀ n x, (fun a => a.d) x = n → evFnX tab [(192, cPutI.below (fun a => a.d) n), (1000003, cGh), (1000004, cGh), (1000008, cGh), (220, (pureC (Nat × Tw) [(.rd, false)] [false] (fun t => [twE (t.1 + 1) t.2]) (fun t => [[.lf (.bool (decide (t.2.ks.length = 0)))]]))), (223, cKid), (218, (cCopyS 2 RngX.ds)), (227, (cIns 2 RngX.ds)), (226, (cInsF 1 twE))] cPutI Try.f192 (body Try.f192) x := by
  rintro N ⟨n, ⟨ps, ks⟩, b, d, h, hn, p, hs⟩ rfl
  have hpos := h.pos
  obtain ⟨n, rfl⟩ : ∃ m, n = m + 1 := ⟨n - 1, by omega⟩
  cases ks with
  | nil =>
    conv => whnf
    refine ⟨(n, .mk ps []), rfl, ?_⟩
    rintro _ _ ⟨rfl, rfl⟩
    conv => whnf
    have hd : d = 1 := by cases h with | leaf => rfl | node h1 _ _ => simp at h1
    have hps : ps.length ≤ 4 := by cases h with | leaf _ h2 => exact h2 | node h1 _ _ => simp at h1
    subst hd
    let S0 : Nat → Sl := fun i => [(8, .lf (.int .i64 i)), (3, .pt 48 0 0), (1000000, .pt 0 0 0), (0, .pt 0 0 0)]
    let H0 : Hp := [(48, some (.arr true 2 [[.lf (.string p.lo), .lf (.string p.hi)]])), (0, some (.arr true 2 [[.sl 1 none, .sl 2 none]])), (2, some (.row .own 1 (twE n) [])), (1, some (.row .own 2 RngX.ds ps))]
    refine ⟨fun m s h => ∃ i : Nat, i ≤ ps.length ∧ (∀ a ∈ ps.take i, strLt a.lo p.lo = true) ∧ m = ps.length - i ∧ s = S0 i ∧ h = H0, ps.length, [(48, 48), (0, 0), (2, 2), (1, 1)], S0 0, H0, ⟨rfl, ⟨rfl, rfl, rfl, rfl, trivial⟩, rfl, rfl, rfl, rfl, trivial⟩, ⟨0, by omega, fun a ha => by simp at ha, by omega, rfl, rfl⟩, ?_⟩
    rintro m _ _ ⟨i, g1, g2, rfl, rfl, rfl⟩
    conv => whnf
    intro _
    conv => whnf
    refine br2 (fun h5 => ?_) (fun h5 => ?_)
    · have hi : i < ps.length := by have := of_decide_eq_true h5; omega
      obtain ⟨x, hx⟩ := getL hi
      conv => whnf
      refine ⟨Int.natCast_nonneg _, ltI hx, ?_⟩
      conv => whnf
      refine ex2 _ (nthI hx) ?_
      conv => whnf
      refine br2 (fun h6 => ?_) (fun h6 => ?_)
      · conv => whnf
        refine ⟨ps.length - (i + 1), [(48, 48), (0, 0), (2, 2), (1, 1)], S0 (i + 1), H0, by omega, ⟨rfl, ⟨incI hi (by omega), rfl, rfl, rfl, trivial⟩, rfl, rfl, rfl, rfl, trivial⟩, i + 1, hi, fun a ha => ?_, rfl, rfl, rfl⟩
        rw [List.take_add_one, hx] at ha
        simp at ha
        rcases ha with ha | rfl
        · exact g2 a ha
        · exact h6
      · conv => whnf
        intro _
        conv => whnf
        refine br2 (fun h7 => ?_) (fun h7 => ?_)
        · conv => whnf
          refine ⟨Int.natCast_nonneg _, ltI hx, ?_⟩
          conv => whnf
          refine ex2 _ (nthI hx) ?_
          conv => whnf
          refine br2 (fun h8 => ?_) (fun h8 => ?_)
          · have h8' : x.lo = p.lo := strEq_iff.1 h8
            conv => whnf
            refine ⟨Int.natCast_nonneg _, ltI hx, ?_⟩
            conv => whnf
            refine ex2 _ (nthI hx) ?_
            conv => whnf
            refine ⟨p, rfl, ?_⟩
            conv => whnf
            refine ⟨⟨ps.set i p, [], rfl, .inl ⟨?_, rfl⟩⟩⟩
            show Tw.put 1 (.mk ps []) p = _
            rw [put_leaf, insL_hit g2 hx h8']
            unfold splitP
            rw [if_pos (by rw [List.length_set]; exact hps)]
          · have h8' : strLt p.lo x.lo = true := by
              cases e : strLt p.lo x.lo with
              | true => rfl
              | false =>
                replace h8 : strEq x.lo p.lo = false := h8
                rw [strEq_no] at h8
                exact absurd (strLt_tri h6 e) h8
            have hins := insL_mid g2 hx h8'
            conv => whnf
            repeat ((first | refine rc_i rfl ?_ | refine rc_i (fun _ => rfl) ?_); conv => whnf)
            refine ⟨RngX, RngX.ds, [p], fun _ => rfl, rfl, ?_⟩
            conv => whnf
            refine ⟨⟨ps, i, p, g1, by omega⟩, rfl, ?_⟩
            rintro _ _ ⟨rfl, rfl⟩
            conv => whnf
            repeat ((first | refine rc_i rfl ?_ | refine rc_i (fun _ => rfl) ?_); conv => whnf)
            have hl2 : (insAt ps i p).length = ps.length + 1 := insAt_len _ _ _
            intro _
            conv => whnf
            refine br2 (fun h9 => ?_) (fun h9 => ?_)
            · have h9' : (insAt ps i p).length ≤ 4 := by
                replace h9 : decide (((insAt ps i p).length : Int) ≤ 4) = true := h9
                have := of_decide_eq_true h9; omega
              conv => whnf
              refine ⟨⟨insAt ps i p, [], rfl, .inl ⟨?_, rfl⟩⟩⟩
              show Tw.put 1 (.mk ps []) p = _
              rw [put_leaf, hins]
              unfold splitP
              rw [if_pos h9']
            · have h9' : ¬ (insAt ps i p).length ≤ 4 := by
                replace h9 : decide (((insAt ps i p).length : Int) ≤ 4) = false := h9
                have := of_decide_eq_false h9; omega
              conv => whnf
              refine ⟨by decide, (show (3 : Int) ≤ ((insAt ps i p).length : Int) by omega), Int.le_refl _, ?_⟩
              conv => whnf
              refine ⟨⟨((insAt ps i p).drop 3).take (((insAt ps i p).length : Int) - 3).toNat, (by rw [List.length_take, List.length_drop]; omega)⟩, rfl, ?_⟩
              rintro _ _ ⟨rfl, rfl⟩
              conv => whnf
              refine ⟨by decide, by decide, by decide, (show (3 : Int) ≤ ((insAt ps i p).length : Int) by omega), ?_⟩
              conv => whnf
              refine ⟨1, Tw, twE n, twE_len n, ?_⟩
              conv => whnf
              refine ⟨RngX, RngX.ds, _, fun _ => rfl, rfl, ?_⟩
              conv => whnf
              refine ⟨⟨(insAt ps i p).take 3, [], rfl, .inr ⟨(insAt ps i p).drop 3, [], ?_, ?_⟩⟩⟩
              · show Tw.put 1 (.mk ps []) p = _
                rw [put_leaf, hins]
                unfold splitP
                rw [if_neg h9']
              · show [[D.box [D.row 2 RngX.ds (((insAt ps i p).drop 3).take (((insAt ps i p).length : Int) - 3).toNat), D.row 1 (twE n) []]]] = [[D.box [D.row 2 RngX.ds ((insAt ps i p).drop 3), D.row 1 (twE n) []]]]
                rw [cut3]
        · exfalso
          have := of_decide_eq_false h7
          omega
    · have hi : i = ps.length := by have := of_decide_eq_false h5; omega
      subst hi
      have hins := insL_last g2
      conv => whnf
      intro _
      conv => whnf
      refine br2 (fun h7 => ?_) (fun h7 => ?_)
      · exfalso
        have := of_decide_eq_true h7
        omega
      · skip
        conv => whnf
        repeat ((first | refine rc_i rfl ?_ | refine rc_i (fun _ => rfl) ?_); conv => whnf)
        refine ⟨RngX, RngX.ds, [p], fun _ => rfl, rfl, ?_⟩
        conv => whnf
        refine ⟨⟨ps, ps.length, p, g1, by omega⟩, rfl, ?_⟩
        rintro _ _ ⟨rfl, rfl⟩
        conv => whnf
        repeat ((first | refine rc_i rfl ?_ | refine rc_i (fun _ => rfl) ?_); conv => whnf)
        have hl2 : (insAt ps ps.length p).length = ps.length + 1 := insAt_len _ _ _
        intro _
        conv => whnf
        refine br2 (fun h9 => ?_) (fun h9 => ?_)
        · have h9' : (insAt ps ps.length p).length ≤ 4 := by
            replace h9 : decide (((insAt ps ps.length p).length : Int) ≤ 4) = true := h9
            have := of_decide_eq_true h9; omega
          conv => whnf
          refine ⟨⟨insAt ps ps.length p, [], rfl, .inl ⟨?_, rfl⟩⟩⟩
          show Tw.put 1 (.mk ps []) p = _
          rw [put_leaf, hins]
          unfold splitP
          rw [if_pos h9']
        · have h9' : ¬ (insAt ps ps.length p).length ≤ 4 := by
            replace h9 : decide (((insAt ps ps.length p).length : Int) ≤ 4) = false := h9
            have := of_decide_eq_false h9; omega
          conv => whnf
          refine ⟨by decide, (show (3 : Int) ≤ ((insAt ps ps.length p).length : Int) by omega), Int.le_refl _, ?_⟩
          conv => whnf
          refine ⟨⟨((insAt ps ps.length p).drop 3).take (((insAt ps ps.length p).length : Int) - 3).toNat, (by rw [List.length_take, List.length_drop]; omega)⟩, rfl, ?_⟩
          rintro _ _ ⟨rfl, rfl⟩
          conv => whnf
          refine ⟨by decide, by decide, by decide, (show (3 : Int) ≤ ((insAt ps ps.length p).length : Int) by omega), ?_⟩
          conv => whnf
          refine ⟨1, Tw, twE n, twE_len n, ?_⟩
          conv => whnf
          refine ⟨RngX, RngX.ds, _, fun _ => rfl, rfl, ?_⟩
          conv => whnf
          refine ⟨⟨(insAt ps ps.length p).take 3, [], rfl, .inr ⟨(insAt ps ps.length p).drop 3, [], ?_, ?_⟩⟩⟩
          · show Tw.put 1 (.mk ps []) p = _
            rw [put_leaf, hins]
            unfold splitP
            rw [if_neg h9']
          · show [[D.box [D.row 2 RngX.ds (((insAt ps ps.length p).drop 3).take (((insAt ps ps.length p).length : Int) - 3).toNat), D.row 1 (twE n) []]]] = [[D.box [D.row 2 RngX.ds ((insAt ps ps.length p).drop 3), D.row 1 (twE n) []]]]
            rw [cut3]
  | cons k ks =>
    cases h with
    | node h1 h2 h3 =>
    rename_i d
    replace hs : Srt (Tw.alls (k :: ks)) := by simpa [Tw.all] using hs
    have hn' : d ≤ n := by omega
    have h2' : (k :: ks).length ≤ 4 := h2
    conv => whnf
    refine ⟨(n, .mk [] (k :: ks)), rfl, ?_⟩
    rintro _ _ ⟨rfl, rfl⟩
    conv => whnf
    refine ⟨⟨n, [], k :: ks, d, h3, hn', by omega, by simp, p.lo⟩, rfl, ?_⟩
    rintro _ _ ⟨rfl, i, rfl, w⟩
    replace w : Way (k :: ks) p.lo i := w
    have hi := w.lt
    obtain ⟨y, hy⟩ := getL hi
    have hys := h3 y (List.mem_of_getElem? hy)
    have hyp := hys.pos
    obtain ⟨n, rfl⟩ : ∃ m, n = m + 1 := ⟨n - 1, by omega⟩
    have hsy : Srt y.all := by
      rw [Tw.alls_at hy, Srt.app, Srt.app] at hs
      exact hs.2.1.1
    have hwi : wayI (k :: ks) p.lo = i := (wayI_way (by simp)).uniq w hs h3
    have hpn := put_node (n := d) (ps := []) hwi hy
    obtain ⟨us, is⟩ := y
    conv => whnf
    refine ⟨[.foc 2 i 1000], ?_⟩
    conv => whnf
    refine ex2 _ (by rw [nth_eq]; exact hy) ?_
    conv => whnf
    refine ⟨Int.natCast_nonneg _, ltI hy, ?_⟩
    conv => whnf
    repeat (refine rc_i (by (conv => whnf); first | rfl | exact fun _ => rfl | exact ⟨Int.natCast_nonneg _, ltI hy, rfl⟩ | exact ⟨Int.toNat_natCast _, rfl⟩) ?_; conv => whnf)
    refine ⟨Int.toNat_natCast _, ?_⟩
    conv => whnf
    repeat (refine rc_i (by (conv => whnf); first | rfl | exact fun _ => rfl | exact ⟨Int.natCast_nonneg _, ltI hy, rfl⟩ | exact ⟨Int.toNat_natCast _, rfl⟩) ?_; conv => whnf)
    refine ⟨⟨⟨n + 1, .mk us is, false, d, hys, hn', p, hsy⟩, Nat.lt_succ_self _⟩, rfl, ?_⟩
    rintro _ _ ⟨u, j, rfl, hcase⟩
    rcases hcase with ⟨hput, rfl⟩ | ⟨u2, j2, hput, rfl⟩
    · conv => whnf
      repeat (refine rc_i (by (conv => whnf); first | rfl | exact fun _ => rfl | exact ⟨Int.natCast_nonneg _, ltI hy, rfl⟩ | exact ⟨Int.toNat_natCast _, rfl⟩) ?_; conv => whnf)
      refine ⟨[.unf 2], ?_⟩
      conv => whnf
      refine ⟨.mk u j, rfl, ?_⟩
      conv => whnf
      intro _
      conv => whnf
      have hsl : ((k :: ks).set i (.mk u j)).length = (k :: ks).length := List.length_set
      have hse : (k :: ks).set i (.mk u j) = (k :: ks).take i ++ (two ((Tw.mk us is).put d p) ++ (k :: ks).drop (i + 1)) := by
        rw [hput]
        conv => lhs; rw [at_split hy]
        rw [List.set_append_right _ _ (by rw [List.length_take]; omega), List.length_take, show i - min i (k :: ks).length = 0 by omega]; rfl
      refine br2 (fun h9 => ?_) (fun h9 => ?_)
      · conv => whnf
        refine ⟨⟨[], (k :: ks).set i (.mk u j), rfl, .inl ⟨?_, rfl⟩⟩⟩
        show Tw.put (d + 1) (.mk [] (k :: ks)) p = _
        rw [hpn, ← hse]
        unfold splitK
        rw [if_pos (by omega)]
      · exfalso
        replace h9 : decide ((((k :: ks).set i (.mk u j)).length : Int) ≤ 4) = false := h9
        have := of_decide_eq_false h9
        omega
    · conv => whnf
      repeat (refine rc_i (by (conv => whnf); first | rfl | exact fun _ => rfl | exact ⟨Int.natCast_nonneg _, ltI hy, rfl⟩ | exact ⟨Int.toNat_natCast _, rfl⟩) ?_; conv => whnf)
      refine ⟨[.unf 2], ?_⟩
      conv => whnf
      refine ⟨.mk u j, rfl, ?_⟩
      conv => whnf
      refine ⟨Tw, twE (n + 1), [.mk u2 j2], twE_len _, rfl, ?_⟩
      conv => whnf
      have hw1 : IntKind.i64.wrap ((i : Int) + 1) = ((i + 1 : Nat) : Int) := by rw [w64 (by omega) (by omega)]; rfl
      have hsl : ((k :: ks).set i (.mk u j)).length = (k :: ks).length := List.length_set
      refine ⟨(n + 1, ⟨(k :: ks).set i (.mk u j), i + 1, .mk u2 j2, by omega, by omega⟩), ?_, ?_⟩
      · show [[D.row 1 (twE (n + 1)) ((k :: ks).set i (.mk u j))], [D.lf (.int .i64 ((i + 1 : Nat) : Int))], [D.row 1 (twE (n + 1)) [.mk u2 j2]]] = [[D.row 1 (twE (n + 1)) ((k :: ks).set i (.mk u j))], [D.lf (.int .i64 (IntKind.i64.wrap ((i : Int) + 1)))], [D.row 1 (twE (n + 1)) [.mk u2 j2]]]
        rw [hw1]
      rintro _ _ ⟨rfl, rfl⟩
      conv => whnf
      intro _
      conv => whnf
      have hse : insAt ((k :: ks).set i (.mk u j)) (i + 1) (.mk u2 j2) = (k :: ks).take i ++ (two ((Tw.mk us is).put d p) ++ (k :: ks).drop (i + 1)) := by
        rw [hput]
        unfold insAt
        rw [drop_set_self _ _ _ _ (Nat.lt_succ_self i), List.take_add_one, List.getElem?_set, if_pos rfl, if_pos hi, take_set_self]
        simp [two]
      refine br2 (fun h9 => ?_) (fun h9 => ?_)
      · have h9' : (insAt ((k :: ks).set i (.mk u j)) (i + 1) (.mk u2 j2)).length ≤ 4 := by
          have := of_decide_eq_true h9
          exact Int.ofNat_le.1 this
        conv => whnf
        refine ⟨⟨[], insAt ((k :: ks).set i (.mk u j)) (i + 1) (.mk u2 j2), rfl, .inl ⟨?_, rfl⟩⟩⟩
        show Tw.put (d + 1) (.mk [] (k :: ks)) p = _
        rw [hpn, ← hse]
        unfold splitK
        rw [if_pos h9']
      · have h9' : ¬ (insAt ((k :: ks).set i (.mk u j)) (i + 1) (.mk u2 j2)).length ≤ 4 := by
          replace h9 : decide (((insAt ((k :: ks).set i (.mk u j)) (i + 1) (.mk u2 j2)).length : Int) ≤ 4) = false := h9
          have := of_decide_eq_false h9; omega
        have hj5 : (insAt ((k :: ks).set i (.mk u j)) (i + 1) (.mk u2 j2)).length ≤ 5 := by rw [insAt_len]; omega
        generalize insAt ((k :: ks).set i (.mk u j)) (i + 1) (.mk u2 j2) = js at *
        conv => whnf
        refine ⟨[.enc 592], ?_⟩
        conv => whnf
        refine ⟨Option Tw, twOE (n + 1), js.map some, twOE_len _, by rw [List.map_map]; rfl, ?_⟩
        conv => whnf
        have hjl : (js.map some).length = js.length := List.length_map ..
        refine ⟨by decide, (show (3 : Int) ≤ ((js.map some).length : Int) by omega), Int.le_refl _, ?_⟩
        conv => whnf
        refine ⟨true, ?_⟩
        conv => whnf
        refine ⟨Tw, twE (n + 1), [], twE_len _, rfl, ?_⟩
        conv => whnf
        refine ⟨none, rfl, ?_⟩
        conv => whnf
        refine ⟨js.drop 3, ?_, ?_, ?_⟩
        · show (js.drop 3).map (twE (n + 1)) = (((js.map some).drop 3).take (((js.map some).length : Int) - 3).toNat).map (twOE (n + 1))
          rw [List.take_of_length_le (by rw [List.length_drop]; omega), ← List.map_drop, List.map_map]; rfl
        · show 0 + (js.drop 3).length ≤ 4294967296
          rw [List.length_drop]; omega
        conv => whnf
        refine ⟨by decide, by decide, by decide, (show (3 : Int) ≤ (((js.map some).take 3 ++ List.replicate (((js.map some).length : Int) - 3).toNat none ++ (js.map some).drop (3 + (((js.map some).length : Int) - 3).toNat)).length : Int) by
          rw [List.length_append, List.length_append, List.length_take]; omega), ?_⟩
        conv => whnf
        refine ⟨2, RngX, RngX.ds, fun _ => rfl, ?_⟩
        conv => whnf
        refine ⟨Tw, twE (n + 1), js.take 3, twE_len _, ?_, ?_⟩
        · show (js.take 3).map (twE (n + 1)) = ((((js.map some).take 3 ++ List.replicate (((js.map some).length : Int) - 3).toNat none ++ (js.map some).drop (3 + (((js.map some).length : Int) - 3).toNat)).drop 0).take 3).map (twOE (n + 1))
          rw [List.drop_zero, List.append_assoc, List.take_append_of_le_length (by rw [List.length_take]; omega), List.take_take, show min 3 3 = 3 from rfl, ← List.map_take, List.map_map]; rfl
        conv => whnf
        refine ⟨⟨[], js.take 3, rfl, .inr ⟨[], js.drop 3, ?_, rfl⟩⟩⟩
        show Tw.put (d + 1) (.mk [] (k :: ks)) p = _
        rw [hpn, ← hse]
        unfold splitK
        rw [if_neg h9']
theorem put_ok : FnOk Try.prog 192 cPutI := fn_rec (fun a => a.d) fun n hs x hx => fnX_at tab_ok (SOk.cons hs (SOk.cons gh_ok (SOk.cons gh_ok (SOk.cons gh_ok (SOk.cons isLeaf_ok (SOk.cons kid_ok (SOk.cons copyPairs_ok (SOk.cons insPair_ok (SOk.cons insTw_ok SOk.nil))))))))) mixed (fn := Try.f192) (code := body Try.f192) ⟨Try.func192, rfl, by kernel_rfl, by kernel_rfl, by kernel_rfl, by kernel_rfl⟩ (ev_put n x hx)
end Go.Vm
namespace Go.Vm
open Go.Proofs
set_option maxRecDepth 100000
set_option linter.unusedVariables false
set_option linter.unusedSimpArgs false

def cLayI : Con := pureC LayX [(.rd, false), (.take, false)] [false] (fun a => [twE a.t.n a.t.x, [.row 3 NodeX.ds a.N]]) (fun a => [[.row 3 NodeX.ds (a.N ++ a.t.x.lay a.N.length)]])
theorem ev_lay : ∀ n x, (fun a => a.t.d) x = n → evFnX tab [(186, cLayI.below (fun a => a.t.d) n), (1000006, cGh), (1000009, cGh), (218, (cCopyS 2 RngX.ds)), (219, cLeast)] cLayI Try.f186 (body Try.f186) x := by
  rintro M ⟨⟨n, x, b, d, h, hn⟩, N, hl⟩ rfl
  have hpos := h.pos
  obtain ⟨n, rfl⟩ : ∃ m, n = m + 1 := ⟨n - 1, by omega⟩
  obtain ⟨ps, ks⟩ := x
  replace hl : N.length + (1 + Tw.sizes ks) ≤ 4194304 := hl
  replace hn : d ≤ n + 1 := hn
  have hps : ps.length ≤ 4 := by cases h <;> simp_all
  have hk4 : ks.length ≤ 4 := by cases h <;> simp_all
  have hkid : ∀ k ∈ ks, ∃ d', d' < d ∧ Shp false d' k := by
    intro k hk
    cases h with
    | leaf => simp at hk
    | node k1 k2 k3 => exact ⟨_, Nat.lt_succ_self _, k3 k hk⟩
  conv => whnf
  intro _
  conv => whnf
  refine ⟨⟨ps, by omega⟩, rfl, ?_⟩
  rintro _ _ ⟨rfl, rfl⟩
  conv => whnf
  refine ⟨1, ByteArray, strE1, fun _ => rfl, ?_⟩
  conv => whnf
  refine ⟨1, Int, intE1, fun _ => rfl, ?_⟩
  conv => whnf
  refine ⟨[⟨ps, [], []⟩], rfl, ?_, ?_⟩
  · show N.length + 1 ≤ 4294967296; omega
  conv => whnf
  intro _
  conv => whnf
  let nd : Nat → NodeX := fun i => ⟨ps, ((ks.take i).drop 1).map Tw.least, kidsAt (ks.take i) (N.length + 1)⟩
  let L : Nat → List NodeX := fun i => N ++ [nd i] ++ Tw.lays (ks.take i) (N.length + 1)
  let S0 : Nat → Sl := fun i => [(24, .lf (.int .i64 i)), (23, .lf (.int .i64 ks.length)), (22, .sl 2 none), (5, .lf (.int .i64 N.length)), (1, .sl 288 none), (0, .pt 0 0 0)]
  let H0 : Nat → Hp := fun i => [(288, some (.row .own 3 NodeX.ds (L i))), (0, some (.arr false 2 [[.sl 1 none, .sl 2 none]])), (1, some (.row .lent 2 RngX.ds ps)), (2, some (.row .lent 1 (twE n) ks))]
  have hL : ∀ i, (L i).length = N.length + 1 + Tw.sizes (ks.take i) := fun i => by simp [L, Tw.lays_len]; omega
  refine ⟨fun m s h => ∃ i : Nat, i ≤ ks.length ∧ m = ks.length - i ∧ s = S0 i ∧ h = H0 i, ks.length, [(288, 288), (0, 0), (1, 1), (2, 2)], S0 0, H0 0,
    ⟨rfl, ⟨rfl, rfl, rfl, rfl, rfl, rfl, trivial⟩, ?_, rfl, rfl, rfl, trivial⟩, ⟨0, by omega, rfl, rfl, rfl⟩, ?_⟩
  · show _ = some (Ob.row Kind.own 3 NodeX.ds (L 0))
    simp [L, nd, Tw.lays, kidsAt]; rfl
  rintro m _ _ ⟨i, g1, rfl, rfl, rfl⟩
  conv => whnf
  refine br2 (fun h5 => ?_) (fun h5 => ?_)
  · have hi : i < ks.length := by have := of_decide_eq_true h5; omega
    obtain ⟨k, hk⟩ := getL hi
    obtain ⟨d', hd, hks⟩ := hkid k (List.mem_of_getElem? hk)
    have hp := hks.pos
    obtain ⟨z1, z2⟩ := Tw.sizes_take hk
    have hy : (L i)[N.length]? = some (nd i) := by simp [L]
    have hset : (L i).set N.length (nd (i + 1)) = N ++ [nd (i + 1)] ++ Tw.lays (ks.take i) (N.length + 1) := by
      simp [L, List.set_append]
    have hL1 : L (i + 1) = (L i).set N.length (nd (i + 1)) ++ k.lay (L i).length := by
      rw [hset, hL]; simp only [L, Tw.lays_take hk, List.append_assoc]
    have hK1 : kidsAt (ks.take (i + 1)) (N.length + 1) = kidsAt (ks.take i) (N.length + 1) ++ [((L i).length : Int)] := by rw [kidsAt_take hk, hL]
    have hlen := hL i
    obtain ⟨us, is⟩ := k
    obtain ⟨n', rfl⟩ : ∃ q, n = q + 1 := ⟨n - 1, by omega⟩
    conv => whnf
    refine ⟨Int.natCast_nonneg _, ltI hk, ?_⟩
    conv => whnf
    refine ex2 _ (nthI hk) ?_
    conv => whnf
    refine ⟨[.foc 288 N.length 1000], ?_⟩
    conv => whnf
    refine ex2 _ (by rw [nth_eq]; exact hy) ?_
    conv => whnf
    refine br2 (fun h6 => ?_) (fun h6 => ?_)
    · have h6' : 0 < i := by have := of_decide_eq_true h6; omega
      conv => whnf
      refine ⟨Int.natCast_nonneg _, ltI hy, ?_⟩
      conv => whnf
      repeat (refine rc_i (by (conv => whnf); first | rfl | exact fun _ => rfl | exact ⟨Int.natCast_nonneg _, ltI hy, rfl⟩ | exact ⟨Int.toNat_natCast _, rfl⟩) ?_; conv => whnf)
      refine ⟨Int.toNat_natCast _, ?_⟩
      conv => whnf
      repeat (refine rc_i (by (conv => whnf); first | rfl | exact fun _ => rfl | exact ⟨Int.natCast_nonneg _, ltI hy, rfl⟩ | exact ⟨Int.toNat_natCast _, rfl⟩) ?_; conv => whnf)
      refine ⟨⟨n' + 1, .mk us is, false, d', hks, by omega⟩, rfl, ?_⟩
      rintro _ _ ⟨rfl, rfl⟩
      conv => whnf
      repeat (refine rc_i (by (conv => whnf); first | rfl | exact fun _ => rfl | exact ⟨Int.natCast_nonneg _, ltI hy, rfl⟩ | exact ⟨Int.toNat_natCast _, rfl⟩) ?_; conv => whnf)
      refine ⟨[(Tw.mk us is).least], rfl, ?_, ?_⟩
      · show (((ks.take i).drop 1).map Tw.least).length + 1 ≤ 4294967296
        simp; omega
      conv => whnf
      repeat (refine rc_i (by (conv => whnf); first | rfl | exact fun _ => rfl | exact ⟨Int.natCast_nonneg _, ltI hy, rfl⟩ | exact ⟨Int.toNat_natCast _, rfl⟩) ?_; conv => whnf)
      refine ⟨Int.natCast_nonneg _, ltI hy, ?_⟩
      conv => whnf
      repeat (refine rc_i (by (conv => whnf); first | rfl | exact fun _ => rfl | exact ⟨Int.natCast_nonneg _, ltI hy, rfl⟩ | exact ⟨Int.toNat_natCast _, rfl⟩) ?_; conv => whnf)
      refine ⟨Int.toNat_natCast _, ?_⟩
      conv => whnf
      refine ⟨Int.natCast_nonneg _, ltI hy, ?_⟩
      conv => whnf
      refine ⟨Int.toNat_natCast _, ?_⟩
      conv => whnf
      intro _
      conv => whnf
      refine ⟨[((L i).length : Int)], rfl, ?_, ?_⟩
      · show (kidsAt (ks.take i) (N.length + 1)).length + 1 ≤ 4294967296
        rw [kidsAt_len, List.length_take]; omega
      conv => whnf
      refine ⟨Int.natCast_nonneg _, ltI hy, ?_⟩
      conv => whnf
      refine ⟨Int.toNat_natCast _, ?_⟩
      conv => whnf
      refine ⟨[.unf 288], ?_⟩
      conv => whnf
      refine ⟨nd (i + 1), ?_, ?_⟩
      · show [D.row 2 RngX.ds ps, D.row 1 strE1 (((ks.take (i + 1)).drop 1).map Tw.least), D.row 1 intE1 (kidsAt (ks.take (i + 1)) (N.length + 1))] = [D.row 2 RngX.ds ps, D.row 1 strE1 (((ks.take i).drop 1).map Tw.least ++ [(Tw.mk us is).least]), D.row 1 intE1 (kidsAt (ks.take i) (N.length + 1) ++ [((L i).length : Int)])]
        rw [hK1, leasts_take hk h6']
      conv => whnf
      have hsl : ((L i).set N.length (nd (i + 1))).length = (L i).length := List.length_set
      refine ⟨⟨⟨⟨n' + 1, .mk us is, false, d', hks, by omega⟩, (L i).set N.length (nd (i + 1)), (by show ((L i).set N.length (nd (i + 1))).length + (Tw.mk us is).size ≤ 4194304; omega)⟩, hd⟩, rfl, ?_⟩
      rintro _ _ ⟨rfl, rfl⟩
      conv => whnf
      refine ⟨ks.length - (i + 1), [(944, 288), (0, 0), (1, 1), (2, 2)], S0 (i + 1), H0 (i + 1), by omega, ⟨rfl, ⟨incI hi (by omega), rfl, rfl, rfl, rfl, rfl, trivial⟩, ?_, rfl, rfl, rfl, trivial⟩, i + 1, by omega, rfl, rfl, rfl⟩
      show some (Ob.row Kind.own 3 NodeX.ds ((L i).set N.length (nd (i + 1)) ++ (Tw.mk us is).lay ((L i).set N.length (nd (i + 1))).length)) = some (Ob.row Kind.own 3 NodeX.ds (L (i + 1)))
      rw [hsl, hL1]
    · have h6' : i = 0 := by have := of_decide_eq_false h6; omega
      conv => whnf
      refine ⟨Int.natCast_nonneg _, ltI hy, ?_⟩
      conv => whnf
      refine ⟨Int.toNat_natCast _, ?_⟩
      conv => whnf
      intro _
      conv => whnf
      refine ⟨[((L i).length : Int)], rfl, ?_, ?_⟩
      · show (kidsAt (ks.take i) (N.length + 1)).length + 1 ≤ 4294967296
        rw [kidsAt_len, List.length_take]; omega
      conv => whnf
      refine ⟨Int.natCast_nonneg _, ltI hy, ?_⟩
      conv => whnf
      refine ⟨Int.toNat_natCast _, ?_⟩
      conv => whnf
      refine ⟨[.unf 288], ?_⟩
      conv => whnf
      refine ⟨nd (i + 1), ?_, ?_⟩
      · show [D.row 2 RngX.ds ps, D.row 1 strE1 (((ks.take (i + 1)).drop 1).map Tw.least), D.row 1 intE1 (kidsAt (ks.take (i + 1)) (N.length + 1))] = [D.row 2 RngX.ds ps, D.row 1 strE1 (((ks.take i).drop 1).map Tw.least), D.row 1 intE1 (kidsAt (ks.take i) (N.length + 1) ++ [((L i).length : Int)])]
        rw [hK1, (by subst h6'; rw [leasts_take0]; simp : ((ks.take (i + 1)).drop 1).map Tw.least = ((ks.take i).drop 1).map Tw.least)]
      conv => whnf
      have hsl : ((L i).set N.length (nd (i + 1))).length = (L i).length := List.length_set
      refine ⟨⟨⟨⟨n' + 1, .mk us is, false, d', hks, by omega⟩, (L i).set N.length (nd (i + 1)), (by show ((L i).set N.length (nd (i + 1))).length + (Tw.mk us is).size ≤ 4194304; omega)⟩, hd⟩, rfl, ?_⟩
      rintro _ _ ⟨rfl, rfl⟩
      conv => whnf
      refine ⟨ks.length - (i + 1), [(944, 288), (0, 0), (1, 1), (2, 2)], S0 (i + 1), H0 (i + 1), by omega, ⟨rfl, ⟨incI hi (by omega), rfl, rfl, rfl, rfl, rfl, trivial⟩, ?_, rfl, rfl, rfl, trivial⟩, i + 1, by omega, rfl, rfl, rfl⟩
      show some (Ob.row Kind.own 3 NodeX.ds ((L i).set N.length (nd (i + 1)) ++ (Tw.mk us is).lay ((L i).set N.length (nd (i + 1))).length)) = some (Ob.row Kind.own 3 NodeX.ds (L (i + 1)))
      rw [hsl, hL1]
  · have hi : i = ks.length := by have := of_decide_eq_false h5; omega
    subst hi
    conv => whnf
    refine ⟨⟨rfl, ?_⟩⟩
    show [[D.row 3 NodeX.ds (N ++ [nd ks.length] ++ Tw.lays (ks.take ks.length) (N.length + 1))]] = [[D.row 3 NodeX.ds (N ++ (Tw.mk ps ks).lay N.length)]]
    simp only [nd, List.take_length, Tw.lay, List.append_assoc, List.singleton_append]
theorem lay_ok : FnOk Try.prog 186 cLayI := fn_rec (fun a => a.t.d) fun n hs x hx => fnX_at tab_ok (SOk.cons hs (SOk.cons gh_ok (SOk.cons gh_ok (SOk.cons copyPairs_ok (SOk.cons least_ok SOk.nil))))) mixed (fn := Try.f186) (code := body Try.f186) ⟨Try.func186, rfl, by kernel_rfl, by kernel_rfl, by kernel_rfl, by kernel_rfl⟩ (ev_lay n x hx)
/-- The tree of a root, or of none. -/
def twO (n : Nat) : Option Tw → List D
  | none => [.lf (.pointer none)]
  | some x => twE n x
structure TreeOfX where
  n : Nat
  o : Option Tw
  h : ∀ x, o = some x → ∃ b d, Shp b d x ∧ d ≤ n ∧ x.size ≤ 4194304
def cTreeOfI : Con := pureC TreeOfX [(.rd, false)] [true] (fun a => [twO a.n a.o]) (fun a => [[.row 3 NodeX.ds (layO a.o)]])
theorem ev_treeOf : ∀ x, evFnX tab [(186, cLayI)] cTreeOfI Try.f133 (body Try.f133) x := by
  rintro ⟨n, o, h⟩
  cases o with
  | none =>
    conv => whnf
    refine ⟨3, NodeX, NodeX.ds, fun _ => rfl, ?_⟩
    conv => whnf
    exact ⟨⟨rfl, rfl⟩⟩
  | some x =>
    obtain ⟨b, d, hx, hd, hs⟩ := h x rfl
    have hpos := hx.pos
    obtain ⟨n, rfl⟩ : ∃ m, n = m + 1 := ⟨n - 1, by omega⟩
    obtain ⟨us, is⟩ := x
    conv => whnf
    refine ⟨3, NodeX, NodeX.ds, fun _ => rfl, ?_⟩
    conv => whnf
    refine ⟨⟨⟨n + 1, .mk us is, b, d, hx, hd⟩, [], by simpa using hs⟩, rfl, ?_⟩
    rintro _ _ ⟨rfl, rfl⟩
    conv => whnf
    exact ⟨⟨rfl, rfl⟩⟩
theorem treeOf_ok : FnOk Try.prog 133 cTreeOfI := fnOk_of fun x => fnX_at tab_ok (SOk.cons lay_ok SOk.nil) mixed (fn := Try.f133) (code := body Try.f133) ⟨Try.func133, rfl, by kernel_rfl, by kernel_rfl, by kernel_rfl, by kernel_rfl⟩ (ev_treeOf x)
end Go.Vm
namespace Go.Vm
open Go.Proofs
set_option maxRecDepth 100000
set_option linter.unusedVariables false
set_option linter.unusedSimpArgs false

/-- A node that may have one kid alone, or be an empty leaf; told n + 1 levels deep. -/
def TopOk (n : Nat) (y : Tw) : Prop :=
  (∃ ps, y = .mk ps [] ∧ ps.length ≤ 4) ∨ (∃ c d, y = .mk [] [c] ∧ Shp true d c ∧ d ≤ n ∧ c.size ≤ 4194304) ∨ (∃ d ps k k2 ks, y = .mk ps (k :: k2 :: ks) ∧ Shp true (d + 1) y ∧ d ≤ n ∧ y.size ≤ 4194304)
def one1 : Tw → Nat
  | .mk _ [_] => 1
  | _ => 0
theorem TopOk.kid {n : Nat} {c : Tw} (h : TopOk (n + 1) (.mk [] [c])) : TopOk n c ∧ c.top = some c ∧ one1 c = 0 := by
  rcases h with ⟨ps, h, _⟩ | ⟨c', d, h, hc, hd, hs⟩ | ⟨d, ps, k, k2, ks, h, _⟩
  · cases h
  · cases h
    cases hc with
    | leaf h1 h2 =>
      rename_i ps
      refine ⟨.inl ⟨ps, rfl, h2⟩, ?_, rfl⟩
      simp only [Tw.top, List.length_nil, Nat.add_zero]
      rw [if_neg (by simp at h1; omega)]
    | node h1 h2 h3 =>
      rename_i d ks
      match ks, h1, h2, h3, hs with
      | k :: k2 :: r, h1, h2, h3, hs =>
        exact ⟨.inr (.inr ⟨d, [], k, k2, r, rfl, .node (by simp) h2 h3, by omega, hs⟩), rfl, rfl⟩
  · cases h
structure TopX where
  n : Nat
  y : Tw
  h : TopOk n y
def cSTree : Con := pureC TopX [(.rd, true)] [true] (fun t => [subE (t.n + 1) t.y]) (fun t => [[.row 3 NodeX.ds (layO t.y.top)]])
theorem ev_sTree : ∀ x, evFnX tab [(137, cSLay)] cSTree Try.f145 (body Try.f145) x := by
  rintro ⟨n, ⟨ps, ks⟩, h⟩
  replace h : TopOk n (.mk ps ks) := h
  conv => whnf
  let S0 : Sl := [(1, .pt 16 0 0), (2, .pt 32 0 0)]
  let H0 : Nat → List RngX → List Tw → Hp := fun n ps ks => [(32, some (.arr true 1 [[.lf (.slice none 0 0)]])), (16, some (.arr true 3 [[.lf (.bool ks.isEmpty), .sl 0 none, .sl 1 none]])), (1, some (.row .lent 3 (subE n) ks)), (0, some (.row .lent 2 RngX.ds ps))]
  refine ⟨fun m s h => ∃ n' ps' ks', TopOk n' (.mk ps' ks') ∧ (Tw.mk ps' ks').top = (Tw.mk ps ks).top ∧ m = one1 (.mk ps' ks') ∧ s = S0 ∧ h = H0 n' ps' ks', one1 (.mk ps ks), [(32, 32), (16, 16), (1, 1), (0, 0)], S0, H0 n ps ks, ⟨rfl, ⟨rfl, rfl, trivial⟩, rfl, rfl, rfl, rfl, trivial⟩, ⟨n, ps, ks, h, rfl, rfl, rfl, rfl⟩, ?_⟩
  clear h
  rintro m _ _ ⟨n', ps', ks', h, htop, rfl, rfl, rfl⟩
  cases ks' with
  | nil =>
    have hps : ps'.length ≤ 4 := by
      rcases h with ⟨ps, h, h2⟩ | ⟨c', d, h, _⟩ | ⟨d, ps, k, k2, ks, h, _⟩
      · cases h; exact h2
      · cases h
      · cases h
    conv => whnf
    intro _
    conv => whnf
    refine br2 (fun h3 => ?_) (fun h3 => ?_)
    · have h3' : ps' = [] := by
        replace h3 : ((ps'.length : Int) == 0) = true := h3
        exact List.eq_nil_of_length_eq_zero (by simpa using h3)
      subst h3'
      conv => whnf
      refine ⟨3, NodeX, NodeX.ds, fun _ => rfl, ?_⟩
      conv => whnf
      refine ⟨⟨rfl, ?_⟩⟩
      show [[D.row 3 NodeX.ds []]] = [[D.row 3 NodeX.ds (layO (Tw.mk ps ks).top)]]
      rw [← htop]; rfl
    · have h3' : 1 ≤ ps'.length := by
        replace h3 : ((ps'.length : Int) == 0) = false := h3
        simp at h3
        cases ps' with
        | nil => exact absurd rfl h3
        | cons => simp
      conv => whnf
      refine ⟨3, NodeX, NodeX.ds, fun _ => rfl, ?_⟩
      conv => whnf
      refine ⟨⟨⟨n' + 1, .mk ps' [], true, 1, .leaf (by simpa using h3') hps, by omega⟩, [], by simp [Tw.size, Tw.sizes]⟩, rfl, ?_⟩
      rintro _ _ ⟨rfl, rfl⟩
      conv => whnf
      refine ⟨⟨rfl, ?_⟩⟩
      show [[D.row 3 NodeX.ds ([] ++ (Tw.mk ps' []).lay 0)]] = [[D.row 3 NodeX.ds (layO (Tw.mk ps ks).top)]]
      rw [← htop]
      simp only [Tw.top, List.length_nil, Nat.add_zero]
      rw [if_neg (by omega)]; rfl
  | cons c ks' =>
    cases ks' with
    | nil =>
      obtain ⟨d, rfl, hc, hd, hs⟩ : ∃ d, ps' = [] ∧ Shp true d c ∧ d ≤ n' ∧ c.size ≤ 4194304 := by
        rcases h with ⟨ps, h, h2⟩ | ⟨c', d, h, a1, a2, a3⟩ | ⟨d, ps, k, k2, ks, h, _⟩
        · cases h
        · cases h; exact ⟨d, rfl, a1, a2, a3⟩
        · cases h
      have hp := hc.pos
      obtain ⟨n', rfl⟩ : ∃ m, n' = m + 1 := ⟨n' - 1, by omega⟩
      obtain ⟨k1, k2, k3⟩ := h.kid
      obtain ⟨us, is⟩ := c
      conv => whnf
      intro _
      conv => whnf
      refine ⟨by decide, (show (0 : Int) < 1 by decide), ?_⟩
      conv => whnf
      refine ex2 _ rfl ?_
      conv => whnf
      exact ⟨0, [(32, 32), (16, 16), (241, 1), (240, 0)], S0, H0 n' us is, by show 0 < 1; omega, ⟨rfl, ⟨rfl, rfl, trivial⟩, rfl, rfl, rfl, rfl, trivial⟩, n', us, is, k1, k2.trans htop, k3.symm, rfl, rfl⟩
    | cons c2 ks' =>
      obtain ⟨d, hc, hd, hs⟩ : ∃ d, Shp true (d + 1) (.mk ps' (c :: c2 :: ks')) ∧ d ≤ n' ∧ (Tw.mk ps' (c :: c2 :: ks')).size ≤ 4194304 := by
        rcases h with ⟨ps, h, h2⟩ | ⟨c', d, h, a1, a2, a3⟩ | ⟨d, ps, k, k2, ks, h, a1, a2, a3⟩
        · cases h
        · cases h
        · exact ⟨d, a1, a2, a3⟩
      conv => whnf
      intro _
      conv => whnf
      refine ⟨3, NodeX, NodeX.ds, fun _ => rfl, ?_⟩
      conv => whnf
      refine ⟨⟨⟨n' + 1, .mk ps' (c :: c2 :: ks'), true, d + 1, hc, by omega⟩, [], by simpa using hs⟩, rfl, ?_⟩
      rintro _ _ ⟨rfl, rfl⟩
      conv => whnf
      refine ⟨⟨rfl, ?_⟩⟩
      show [[D.row 3 NodeX.ds ([] ++ (Tw.mk ps' (c :: c2 :: ks')).lay 0)]] = [[D.row 3 NodeX.ds (layO (Tw.mk ps ks).top)]]
      rw [← htop]
      simp only [Tw.top]
      rw [if_neg (by simp)]; rfl
theorem sTree_ok : FnOk Try.prog 145 cSTree := fnOk_of fun x => fnX_at tab_ok (SOk.cons sLay_ok SOk.nil) mixed (fn := Try.f145) (code := body Try.f145) ⟨Try.func145, rfl, by kernel_rfl, by kernel_rfl, by kernel_rfl, by kernel_rfl⟩ (ev_sTree x)
end Go.Vm
namespace Go.Vm
open Go.Proofs
set_option maxRecDepth 100000
set_option linter.unusedVariables false
set_option linter.unusedSimpArgs false

theorem root_tree {N : List NodeX} {o : Option Tw} {ok : Bool} (rs : RootS N o ok) (hT : TreeP N) : ok = true ∧ ∃ us is o', o = some (.mk us is) ∧ Vo o' ∧ N = layO o' ∧ (o' = none ∧ us = [] ∧ is = [] ∨ o' = some (.mk us is) ∧ ∃ d, Shp true d (.mk us is) ∧ d ≤ 7) := by
  by_cases hne : N = []
  · obtain ⟨rfl, rfl⟩ := rs.emp hne
    obtain ⟨o', ho, e⟩ := hT
    have := e
    rw [hne] at this
    have hn := layO_nil.1 this.symm
    exact ⟨rfl, [], [], o', rfl, ho, e, .inl ⟨hn, rfl, rfl⟩⟩
  · obtain ⟨y, d, a1, a2, a3, a4, a5, a6, a7⟩ := treeP_read hT hne
    cases ok with
    | false => exact absurd (show y.deep ≤ 13 by omega) (rs.no rfl y a4 a5)
    | true =>
      obtain ⟨x, rfl, b1, b2, b3⟩ := rs.yes rfl hne
      have := Fit.uniq x y 0 b1 a4
      subst this
      obtain ⟨o', ho, e⟩ := hT
      have e' : some x = o' := layO_inj (by rw [← e]; exact a3.symm)
      subst e'
      obtain ⟨us, is⟩ := x
      exact ⟨rfl, us, is, _, rfl, ho, e, .inr ⟨rfl, d, a1, by
        have := a1.deep_le (Nat.le_trans ho.ok.len (by omega)); omega⟩⟩
structure PutOk (o : Option Tw) (x : Tw) (p : RngX) (d : Nat) : Prop where
  pos : 1 ≤ d
  le : d ≤ 7
  shp : x = .mk [] [] ∧ d = 1 ∨ Shp true d x
  srt : Srt x.all
  top : (Tw.mk [] (two (x.put d p))).top = some (putO o p)
  ok : TopOk 13 (.mk [] (two (x.put d p)))
  prs : PrsOk (.mk [] (two (x.put d p)))
  all : Tw.alls (two (x.put d p)) = insL p (allO o)
  deep : (Tw.mk [] (two (x.put d p))).deep ≤ 13
theorem put_two {o : Option Tw} {us : List RngX} {is : List Tw} (p : RngX) (ho : Vo o) (h : o = none ∧ us = [] ∧ is = [] ∨ o = some (.mk us is) ∧ ∃ d, Shp true d (.mk us is) ∧ d ≤ 7) : ∃ d, PutOk o (.mk us is) p d := by
  rcases h with ⟨rfl, rfl, rfl⟩ | ⟨rfl, d, hd, hd7⟩
  · refine ⟨1, Nat.le_refl _, by omega, .inl ⟨rfl, rfl⟩, List.Pairwise.nil, rfl, ?_, ?_, rfl, ?_⟩
    · exact .inr (.inl ⟨.mk [p] [], 1, rfl, .leaf (by simp) (by simp), by omega, by show 1 + 0 ≤ _; omega⟩)
    · refine .inr ⟨_, rfl, by show 1 ≤ 4; omega, fun k hk => ?_⟩
      have hk' : k ∈ [Tw.mk [p] []] := hk
      obtain rfl : k = .mk [p] [] := by simpa using hk'
      exact ⟨true, 1, .leaf (by simp) (by simp)⟩
    · show 1 + max (1 + 0) 0 ≤ 13
      decide
  · have hs : Srt (Tw.mk us is).all := ho.ok.srt
    have e := hd.deep
    obtain ⟨h1, h2⟩ := Tw.put_ok p hd
    have hal := h2 hs
    have hlen : (insL p (Tw.mk us is).all).length ≤ 201 := by
      have := (insL_len p (Tw.mk us is).all).2.1
      have := ho.ok.len
      have : (allO (some (Tw.mk us is))).length = (Tw.mk us is).all.length := rfl
      omega
    have hput : putO (some (.mk us is)) p = match (Tw.mk us is).put d p with
        | (x', none) => x'
        | (x', some y) => .mk [] [x', y] := by simp only [putO, e]; rfl
    suffices key : (Tw.mk [] (two ((Tw.mk us is).put d p))).top = some (putO (some (.mk us is)) p) ∧ TopOk 13 (.mk [] (two ((Tw.mk us is).put d p))) ∧ PrsOk (.mk [] (two ((Tw.mk us is).put d p))) ∧ Tw.alls (two ((Tw.mk us is).put d p)) = insL p (Tw.mk us is).all ∧ (Tw.mk [] (two ((Tw.mk us is).put d p))).deep ≤ 13 from ⟨d, hd.pos, hd7, .inr hd, hs, key.1, key.2.1, key.2.2.1, key.2.2.2.1, key.2.2.2.2⟩
    rw [hput]
    generalize (Tw.mk us is).put d p = r at *
    obtain ⟨x', m⟩ := r
    cases m with
    | none =>
      have hx : Shp true d x' := h1.1 rfl
      have hsz := hx.manyR.2.2.1
      replace hal : x'.all ++ [] = _ := hal
      rw [List.append_nil] at hal
      refine ⟨rfl, .inr (.inl ⟨x', d, rfl, hx, by omega, by rw [hal] at hsz; omega⟩), .inr ⟨_, rfl, by show 1 ≤ 4; omega, fun k hk => ?_⟩, ?_, ?_⟩
      · obtain rfl : k = x' := by simpa [two] using hk
        exact ⟨true, d, hx⟩
      · show x'.all ++ [] = _
        rw [List.append_nil]; exact hal
      · show 1 + max x'.deep 0 ≤ 13
        rw [hx.deep]; omega
    | some y =>
      obtain ⟨a, b⟩ := h1.2 y rfl
      have hx : Shp true (d + 1) (.mk [] [x', y]) := .node (by simp) (by simp) fun k hk => by
        simp at hk
        rcases hk with rfl | rfl
        · exact a
        · exact b
      have hsz := hx.manyR.2.2.1
      have hal' : (Tw.mk [] [x', y]).all = insL p (Tw.mk us is).all := by
        show Tw.alls [x', y] ++ [] = _
        rw [List.append_nil]; exact hal
      rw [hal'] at hsz
      refine ⟨rfl, .inr (.inr ⟨d, [], x', y, [], rfl, hx, by omega, by show (Tw.mk [] [x', y]).size ≤ _; omega⟩), hx.prs, hal, ?_⟩
      show (Tw.mk [] [x', y]).deep ≤ 13
      rw [hx.deep]; omega
structure TPutX where
  t : TreeX
  k : ByteArray
  v : ByteArray
structure TPutR (N : List NodeX) (p : RngX) (N' : List NodeX) (ok : Bool) : Prop where
  yes : ∀ o, Vo o → N = layO o → kvOkB p = true → (insL p (allO o)).length ≤ 200 → ok = true ∧ N' = layO (some (putO o p))
  no : (∀ o, Vo o → N = layO o → kvOkB p = true → ¬ (insL p (allO o)).length ≤ 200) → ok = false ∧ N' = []
def cTreePut : Con := relC TPutX [(.rd, true), (.rd, false), (.rd, false)] [true, false] (fun x => [[.row 3 NodeX.ds x.t.N], [.lf (.string x.k)], [.lf (.string x.v)]]) (fun x r => ∃ N' ok, r = [[.row 3 NodeX.ds N'], [.lf (.bool ok)]] ∧ TPutR x.t.N ⟨x.k, x.v⟩ N' ok)
theorem ev_sTreePut : ∀ x, evFnX tab [(57, cTreeOk), (142, cKeyOk), (143, (cS1 valOkB)), (131, cSRoot), (154, cSPut), (132, (pureC PrsS [(.rd, true)] [false] (fun p => [subE p.n p.x]) (fun p => [[.row 2 RngX.ds p.x.all]]))), (145, cSTree)] cTreePut Try.f72 (body Try.f72) x := by
  rintro ⟨⟨N, f, hf, hN, hp⟩, k, v⟩
  replace hN : N.length ≤ 1048576 := hN
  conv => whnf
  refine ⟨⟨N, f, hf, hN, hp⟩, rfl, ?_⟩
  rintro _ _ ⟨rfl, b, rfl, e⟩
  conv => whnf
  replace e : b = true ↔ TreeP N := e
  have bad : (¬ TreeP N ∨ kvOkB ⟨k, v⟩ = false) → TPutR N ⟨k, v⟩ [] false := fun h => by
    refine ⟨fun o ho e h2 _ => ?_, fun _ => ⟨rfl, rfl⟩⟩
    rcases h with h | h
    · exact absurd ⟨o, ho, e⟩ h
    · rw [h] at h2; cases h2
  cases b with
  | false =>
    have h1' : ¬ TreeP N := fun h => by have := e.2 h; cases this
    conv => whnf
    refine ⟨3, NodeX, NodeX.ds, fun _ => rfl, ?_⟩
    conv => whnf
    exact ⟨⟨rfl, [], false, rfl, bad (.inl h1')⟩⟩
  | true =>
  have hT : TreeP N := e.1 rfl
  conv => whnf
  refine ⟨k, rfl, ?_⟩
  rintro _ _ ⟨rfl, rfl⟩
  conv => whnf
  cases hk : keyOkB k with
  | false =>
    conv => whnf
    refine ⟨3, NodeX, NodeX.ds, fun _ => rfl, ?_⟩
    conv => whnf
    exact ⟨⟨rfl, [], false, rfl, bad (.inr (by show (keyOkB k && _) = false; rw [hk]; rfl))⟩⟩
  | true =>
  conv => whnf
  refine ⟨v, rfl, ?_⟩
  rintro _ _ ⟨rfl, rfl⟩
  conv => whnf
  cases hv : valOkB v with
  | false =>
    conv => whnf
    refine ⟨3, NodeX, NodeX.ds, fun _ => rfl, ?_⟩
    conv => whnf
    exact ⟨⟨rfl, [], false, rfl, bad (.inr (by show (keyOkB k && valOkB v) = false; rw [hv, Bool.and_false]))⟩⟩
  | true =>
  conv => whnf
  refine ⟨⟨N, f, hf, hN, hp⟩, rfl, ?_⟩
  rintro _ _ ⟨rfl, o, ok, rfl, rs⟩
  obtain ⟨rfl, us, is, o', rfl, ho, e', hcase⟩ := root_tree rs hT
  obtain ⟨d, pk⟩ := put_two ⟨k, v⟩ ho hcase
  conv => whnf
  refine ⟨⟨13, .mk us is, true, d, pk.shp, Nat.le_trans pk.le (by omega), ⟨k, v⟩, pk.srt⟩, rfl, ?_⟩
  rintro _ _ ⟨rfl, rfl⟩
  conv => whnf
  have hall : (Tw.mk [] (two ((Tw.mk us is).put d ⟨k, v⟩))).all = insL ⟨k, v⟩ (allO o') := by
    show Tw.alls _ ++ [] = _
    rw [List.append_nil]; exact pk.all
  have hlen : (insL (⟨k, v⟩ : RngX) (allO o')).length ≤ 201 := by
    have := (insL_len (⟨k, v⟩ : RngX) (allO o')).2.1
    have := ho.ok.len
    omega
  refine ⟨2, RngX, RngX.ds, fun _ => rfl, ?_⟩
  conv => whnf
  refine ⟨⟨14, .mk [] (two ((Tw.mk us is).put d ⟨k, v⟩)), pk.prs, Nat.le_trans pk.deep (by omega), by rw [hall]; omega⟩, rfl, ?_⟩
  rintro _ _ ⟨rfl, rfl⟩
  conv => whnf
  intro _
  conv => whnf
  have hkv : kvOkB ⟨k, v⟩ = true := by show (keyOkB k && valOkB v) = true; rw [hk, hv]; rfl
  refine br2 (fun h1 => ?_) (fun h1 => ?_)
  · have h1' : ¬ (insL (⟨k, v⟩ : RngX) (allO o')).length ≤ 200 := by
      replace h1 : decide (((Tw.mk [] (two ((Tw.mk us is).put d ⟨k, v⟩))).all.length : Int) > 200) = true := h1
      rw [hall] at h1
      have := of_decide_eq_true h1; omega
    conv => whnf
    refine ⟨3, NodeX, NodeX.ds, fun _ => rfl, ?_⟩
    conv => whnf
    refine ⟨⟨rfl, [], false, rfl, fun o ho2 e2 _ hl => ?_, fun _ => ⟨rfl, rfl⟩⟩⟩
    have : o = o' := layO_inj (by rw [← e2, ← e'])
    subst this
    exact absurd hl h1'
  · have h1' : (insL (⟨k, v⟩ : RngX) (allO o')).length ≤ 200 := by
      replace h1 : decide (((Tw.mk [] (two ((Tw.mk us is).put d ⟨k, v⟩))).all.length : Int) > 200) = false := h1
      rw [hall] at h1
      have := of_decide_eq_false h1; omega
    conv => whnf
    refine ⟨2, RngX, RngX.ds, fun _ => rfl, ?_⟩
    conv => whnf
    refine ⟨⟨13, .mk [] (two ((Tw.mk us is).put d ⟨k, v⟩)), pk.ok⟩, rfl, ?_⟩
    rintro _ _ ⟨rfl, rfl⟩
    conv => whnf
    refine ⟨⟨rfl, _, true, rfl, fun o ho2 e2 _ hl => ⟨rfl, ?_⟩, fun h => absurd h1' (h o' ho e' hkv)⟩⟩
    have : o = o' := layO_inj (by rw [← e2, ← e'])
    subst this
    show layO (Tw.mk [] (two ((Tw.mk us is).put d ⟨k, v⟩))).top = _
    rw [pk.top]
theorem sTreePut_ok : FnOk Try.prog 72 cTreePut := fnOk_of fun x => fnX_at tab_ok (SOk.cons sTreeOk_ok (SOk.cons sKeyOk_ok (SOk.cons sValOk_ok (SOk.cons sRoot_ok (SOk.cons sPut_ok (SOk.cons sPairs_ok (SOk.cons sTree_ok SOk.nil))))))) mixed (fn := Try.f72) (code := body Try.f72) ⟨Try.func72, rfl, by kernel_rfl, by kernel_rfl, by kernel_rfl, by kernel_rfl⟩ (ev_sTreePut x)
end Go.Vm
namespace Go.Vm
open Go.Proofs
set_option maxRecDepth 100000
set_option linter.unusedVariables false
set_option linter.unusedSimpArgs false

theorem Shp.two_node {b : Bool} {d : Nat} {x : Tw} {p : RngX} {u u2 : List RngX} {j j2 : List Tw} (h : Shp b d x) (e : x.put d p = (.mk u j, some (.mk u2 j2))) : Shp true (d + 1) (.mk [] [.mk u j, .mk u2 j2]) := by
  obtain ⟨h1, _⟩ := Tw.put_ok p h
  rw [e] at h1
  obtain ⟨a, b⟩ := h1.2 _ rfl
  exact .node (by simp) (by simp) fun k hk => by
    simp at hk
    rcases hk with rfl | rfl
    · exact a
    · exact b
structure PutAX where
  n : Nat
  o : Option Tw
  p : RngX
  h : ∀ x, o = some x → ∃ d, Shp true d x ∧ d ≤ n ∧ Srt x.all
def cPutA : Con := relC PutAX [(.take, false), (.rd, true)] [false] (fun a => [optE a.n a.o, a.p.ds]) (fun a r => ∃ f x, r = [twE (f + 1) x] ∧ x = putO a.o a.p ∧ f ≤ a.n ∧ ∃ d, Shp true d x ∧ d ≤ f + 1)
theorem ev_putAt : ∀ x, evFnX tab [(192, cPutI)] cPutA Try.f141 (body Try.f141) x := by
  rintro ⟨n, o, p, h⟩
  cases o with
  | none =>
    conv => whnf
    refine ⟨RngX, RngX.ds, [p], fun _ => rfl, rfl, ?_⟩
    conv => whnf
    refine ⟨1, Tw, twE n, twE_len n, ?_⟩
    conv => whnf
    exact ⟨⟨rfl, n, .mk [p] [], rfl, rfl, Nat.le_refl _, 1, .leaf (by simp) (by simp), by omega⟩⟩
  | some x =>
    obtain ⟨d, hx, hd, hs⟩ := h x rfl
    have hpos := hx.pos
    obtain ⟨n, rfl⟩ : ∃ m, n = m + 1 := ⟨n - 1, by omega⟩
    obtain ⟨us, is⟩ := x
    have e := hx.deep
    have hput : putO (some (.mk us is)) p = match (Tw.mk us is).put d p with
        | (x', none) => x'
        | (x', some y) => .mk [] [x', y] := by simp only [putO, e]; rfl
    have hok := (putO_ok p (show ShpO (some (.mk us is)) from ⟨d, hx⟩)).1
    conv => whnf
    refine ⟨⟨n + 1, .mk us is, true, d, hx, hd, p, hs⟩, rfl, ?_⟩
    rintro _ _ ⟨u, j, rfl, ⟨hp, rfl⟩ | ⟨u2, j2, hp, rfl⟩⟩
    · replace hp : (Tw.mk us is).put d p = (.mk u j, none) := hp
      rw [hp] at hput
      have hsh := (Tw.put_ok p hx).1
      rw [hp] at hsh
      conv => whnf
      exact ⟨⟨rfl, n, .mk u j, rfl, hput.symm, Nat.le_succ _, d, hsh.1 rfl, hd⟩⟩
    · replace hp : (Tw.mk us is).put d p = (.mk u j, some (.mk u2 j2)) := hp
      rw [hp] at hput
      conv => whnf
      refine ⟨2, RngX, RngX.ds, fun _ => rfl, ?_⟩
      conv => whnf
      refine ⟨Tw, twE (n + 1), [.mk u j, .mk u2 j2], twE_len _, rfl, ?_⟩
      conv => whnf
      exact ⟨⟨rfl, n + 1, .mk [] [.mk u j, .mk u2 j2], rfl, hput.symm, Nat.le_refl _, d + 1, hx.two_node hp, by omega⟩⟩
theorem putAt_ok : FnOk Try.prog 141 cPutA := fnOk_of fun x => fnX_at tab_ok (SOk.cons put_ok SOk.nil) mixed (fn := Try.f141) (code := body Try.f141) ⟨Try.func141, rfl, by kernel_rfl, by kernel_rfl, by kernel_rfl, by kernel_rfl⟩ (ev_putAt x)
theorem shp_lay {d : Nat} {x : Tw} (h : Shp true d x) (hl : x.all.length ≤ 4194304) : x.size ≤ 4194304 := by
  have := h.manyR.2.2.1; omega
theorem ev_iTreePut : ∀ x, evFnX tab [(129, cRoot), (127, cKeyOk), (152, (cS1 valOkB)), (141, cPutA), (153, cAll), (133, cTreeOfI)] cTreePut Try.f71 (body Try.f71) x := by
  rintro ⟨⟨N, f, hf, hN, hp⟩, k, v⟩
  replace hN : N.length ≤ 1048576 := hN
  have bad : (¬ TreeP N ∨ kvOkB ⟨k, v⟩ = false) → TPutR N ⟨k, v⟩ [] false := fun h => by
    refine ⟨fun o ho e h2 _ => ?_, fun _ => ⟨rfl, rfl⟩⟩
    rcases h with h | h
    · exact absurd ⟨o, ho, e⟩ h
    · rw [h] at h2; cases h2
  conv => whnf
  refine ⟨⟨N, N.length + 1, Nat.le_succ _, hN, hp⟩, rfl, ?_⟩
  rintro _ _ ⟨rfl, o, deep, ok, rfl, rr⟩
  replace rr : RootR N (N.length + 1) o deep ok := rr
  cases ok with
  | false =>
    obtain ⟨h1, rfl⟩ := rr.no rfl
    conv => whnf
    refine ⟨3, NodeX, NodeX.ds, fun _ => rfl, ?_⟩
    conv => whnf
    exact ⟨⟨rfl, [], false, rfl, bad (.inl h1)⟩⟩
  | true =>
  obtain ⟨h1, h2, h3, h4⟩ := rr.yes rfl
  have ho : ∀ x, o = some x → ∃ d, Shp true d x ∧ d ≤ N.length + 1 ∧ Srt x.all := fun x e => by
    subst e
    obtain ⟨d, hd⟩ := h1.shp
    exact ⟨d, hd, by have : (deepO (some x)) = x.deep := rfl; rw [this, hd.deep] at h4; exact h4, h1.ok.srt⟩
  have hlen : (insL (⟨k, v⟩ : RngX) (allO o)).length ≤ 201 := by
    have := (insL_len (⟨k, v⟩ : RngX) (allO o)).2.1
    have := h1.ok.len
    omega
  obtain ⟨q1, q2⟩ := putO_ok (⟨k, v⟩ : RngX) h1.shp
  have q2 := q2 h1.ok.srt
  have uni : ∀ o', Vo o' → N = layO o' → o' = o := fun o' _ e => layO_inj (by rw [← e, ← h2])
  obtain ⟨L, hL⟩ : ∃ L, L = insL (⟨k, v⟩ : RngX) (allO o) := ⟨_, rfl⟩
  rw [← hL] at hlen q2
  rcases o with _ | ⟨us, is⟩
  all_goals
    conv => whnf
    refine ⟨k, rfl, ?_⟩
    rintro _ _ ⟨rfl, rfl⟩
    conv => whnf
    cases hk : keyOkB k with
    | false =>
      conv => whnf
      refine ⟨3, NodeX, NodeX.ds, fun _ => rfl, ?_⟩
      conv => whnf
      exact ⟨⟨rfl, [], false, rfl, bad (.inr (by show (keyOkB k && _) = false; rw [hk]; rfl))⟩⟩
    | true =>
    conv => whnf
    refine ⟨v, rfl, ?_⟩
    rintro _ _ ⟨rfl, rfl⟩
    conv => whnf
    cases hv : valOkB v with
    | false =>
      conv => whnf
      refine ⟨3, NodeX, NodeX.ds, fun _ => rfl, ?_⟩
      conv => whnf
      exact ⟨⟨rfl, [], false, rfl, bad (.inr (by show (keyOkB k && valOkB v) = false; rw [hv, Bool.and_false]))⟩⟩
    | true =>
    have hkv : kvOkB ⟨k, v⟩ = true := by show (keyOkB k && valOkB v) = true; rw [hk, hv]; rfl
    conv => whnf
    first | refine ⟨⟨N.length + 1, none, ⟨k, v⟩, ho⟩, rfl, ?_⟩ | refine ⟨⟨N.length + 1, some (.mk us is), ⟨k, v⟩, ho⟩, rfl, ?_⟩
    rintro _ _ ⟨rfl, g, ⟨u, j⟩, rfl, hx, hg, d, hd, hdg⟩
    replace hx : Tw.mk u j = putO _ (⟨k, v⟩ : RngX) := hx
    rw [← hx] at q1 q2
    have hal : (Tw.mk u j).all.length ≤ 201 := by rw [q2]; exact hlen
    conv => whnf
    refine ⟨2, RngX, RngX.ds, fun _ => rfl, ?_⟩
    conv => whnf
    refine ⟨⟨⟨g + 1, .mk u j, true, d, hd, hdg⟩, [], by show 0 + (Tw.mk u j).all.length ≤ 4294967296; omega⟩, rfl, ?_⟩
    rintro _ _ ⟨rfl, rfl⟩
    conv => whnf
    intro _
    conv => whnf
    refine br2 (fun h8 => ?_) (fun h8 => ?_)
    · have h8' : ¬ L.length ≤ 200 := by
        replace h8 : decide ((([] ++ (Tw.mk u j).all).length : Int) > 200) = true := h8
        rw [List.nil_append, q2] at h8
        have := of_decide_eq_true h8
        intro h9
        omega
      conv => whnf
      refine ⟨3, NodeX, NodeX.ds, fun _ => rfl, ?_⟩
      conv => whnf
      refine ⟨⟨rfl, [], false, rfl, fun o' ho' e' _ hl => ?_, fun _ => ⟨rfl, rfl⟩⟩⟩
      rw [uni o' ho' e', ← hL] at hl
      exact absurd hl h8'
    · have h8' : L.length ≤ 200 := by
        replace h8 : decide ((([] ++ (Tw.mk u j).all).length : Int) > 200) = false := h8
        rw [List.nil_append, q2] at h8
        have := of_decide_eq_false h8
        omega
      conv => whnf
      refine ⟨⟨g + 1, some (.mk u j), fun x e => by cases e; exact ⟨true, d, hd, hdg, shp_lay hd (by omega)⟩⟩, rfl, ?_⟩
      rintro _ _ ⟨rfl, rfl⟩
      conv => whnf
      refine ⟨⟨rfl, _, true, rfl, fun o' ho' e' _ hl => ⟨rfl, ?_⟩, fun h => absurd (hL ▸ h8') (h _ h1 h2 hkv)⟩⟩
      rw [uni o' ho' e', ← hx]; rfl
theorem iTreePut_ok : FnOk Try.prog 71 cTreePut := fnOk_of fun x => fnX_at tab_ok (SOk.cons root_ok (SOk.cons iKeyOk_ok (SOk.cons iValOk_ok (SOk.cons putAt_ok (SOk.cons all_ok (SOk.cons treeOf_ok SOk.nil)))))) mixed (fn := Try.f71) (code := body Try.f71) ⟨Try.func71, rfl, by kernel_rfl, by kernel_rfl, by kernel_rfl, by kernel_rfl⟩ (ev_iTreePut x)
end Go.Vm
namespace Go.Vm
open Go.Proofs
set_option maxRecDepth 100000
set_option linter.unusedVariables false
set_option linter.unusedSimpArgs false

structure FewX where
  n : Nat
  x : Tw
  h : x.ks = [] ∨ x.ps = []
theorem ev_sFew : ∀ x, evFnX tab [] (pureC FewX [(.rd, true)] [false] (fun t => [subE (t.n + 1) t.x]) (fun t => [[.lf (.bool t.x.few)]])) Try.f194 (body Try.f194) x := by
  rintro ⟨n, ⟨ps, ks⟩, h⟩
  replace h : ks = [] ∨ ps = [] := h
  cases ks with
  | nil =>
    have e : (Tw.mk ps []).few = decide ((ps.length : Int) < 2) := by
      unfold Tw.few
      rw [decide_eq_decide]; show ps.length + 0 < 2 ↔ _; omega
    conv => whnf
    intro _
    conv => whnf
    refine br2 (fun h1 => ?_) (fun h1 => ?_)
    all_goals
      conv => whnf
      refine ⟨⟨rfl, ?_⟩⟩
      show [[D.lf (.bool _)]] = [[D.lf (.bool (Tw.mk ps []).few)]]
      rw [e]
      first
        | (replace h1 : decide ((ps.length : Int) < 2) = true := h1; rw [h1])
        | (replace h1 : decide ((ps.length : Int) < 2) = false := h1; rw [h1])
  | cons k ks =>
    obtain rfl : ps = [] := by rcases h with h | h; cases h; exact h
    have e : (Tw.mk [] (k :: ks)).few = decide (((k :: ks).length : Int) < 2) := by
      unfold Tw.few
      rw [decide_eq_decide]; show 0 + (k :: ks).length < 2 ↔ _; omega
    conv => whnf
    intro _
    conv => whnf
    refine ⟨⟨rfl, ?_⟩⟩
    show [[D.lf (.bool (decide (((k :: ks).length : Int) < 2)))]] = [[D.lf (.bool (Tw.mk [] (k :: ks)).few)]]
    rw [e]
theorem sFew_ok : FnOk Try.prog 194 (pureC FewX [(.rd, true)] [false] (fun t => [subE (t.n + 1) t.x]) (fun t => [[.lf (.bool t.x.few)]])) := fnOk_of fun x => fnX_at tab_ok (SOk.nil) mixed (fn := Try.f194) (code := body Try.f194) ⟨Try.func194, rfl, by kernel_rfl, by kernel_rfl, by kernel_rfl, by kernel_rfl⟩ (ev_sFew x)
structure TogX where
  n : Nat
  a : Tw
  b : Tw
  h : a.ks = [] ∧ b.ks = [] ∨ a.ps = [] ∧ b.ps = [] ∧ a.ks ≠ [] ∧ b.ks ≠ []
  hl : a.ps.length ≤ 4 ∧ b.ps.length ≤ 4 ∧ a.ks.length ≤ 4 ∧ b.ks.length ≤ 4
def cTog : Con := keepC TogX [(.keep, true), (.keep, true)] [false] (fun t => [subE (t.n + 1) t.a, subE (t.n + 1) t.b]) (fun t r => r = [[.row 3 (subE (t.n + 1)) (splitT (t.a.join t.b))]])
theorem ev_sTog : ∀ x, evFnX tab [(198, (keepC SplX [(.keep, true)] [false] (fun t => [subE (t.n + 1) t.x]) (fun t r => r = [[.row 3 (subE (t.n + 1)) (splitT t.x)]])))] cTog Try.f195 (body Try.f195) x := by
  rintro ⟨n, ⟨ps, ks⟩, ⟨us, is⟩, h, hl1, hl2, hl3, hl4⟩
  replace h : ks = [] ∧ is = [] ∨ ps = [] ∧ us = [] ∧ ks ≠ [] ∧ is ≠ [] := h
  replace hl1 : ps.length ≤ 4 := hl1
  replace hl2 : us.length ≤ 4 := hl2
  replace hl3 : ks.length ≤ 4 := hl3
  replace hl4 : is.length ≤ 4 := hl4
  conv => whnf
  repeat ((first | refine rc_i rfl ?_ | refine rc_i (fun _ => rfl) ?_); conv => whnf)
  refine ⟨true, ?_⟩
  conv => whnf
  refine ⟨RngX, RngX.ds, [], fun _ => rfl, rfl, ?_⟩
  conv => whnf
  repeat ((first | refine rc_i rfl ?_ | refine rc_i (fun _ => rfl) ?_); conv => whnf)
  refine ⟨fun _ => rfl, ps, rfl, (by show 0 + ps.length ≤ 4294967296; omega), ?_⟩
  conv => whnf
  repeat ((first | refine rc_i rfl ?_ | refine rc_i (fun _ => rfl) ?_); conv => whnf)
  refine ⟨fun _ => rfl, us, rfl, (by show ([] ++ ps).length + us.length ≤ 4294967296; rw [List.nil_append]; omega), ?_⟩
  conv => whnf
  repeat ((first | refine rc_i rfl ?_ | refine rc_i (fun _ => rfl) ?_); conv => whnf)
  refine ⟨false, ?_⟩
  conv => whnf
  refine ⟨Tw, subE n, [], subE_len _, rfl, ?_⟩
  conv => whnf
  repeat ((first | refine rc_i rfl ?_ | refine rc_i (fun _ => rfl) ?_); conv => whnf)
  refine ⟨ks, rfl, (by show 0 + ks.length ≤ 4294967296; omega), ?_⟩
  conv => whnf
  repeat ((first | refine rc_i rfl ?_ | refine rc_i (fun _ => rfl) ?_); conv => whnf)
  refine ⟨is, rfl, (by show ([] ++ ks).length + is.length ≤ 4294967296; rw [List.nil_append]; omega), ?_⟩
  conv => whnf
  repeat ((first | refine rc_i rfl ?_ | refine rc_i (fun _ => rfl) ?_); conv => whnf)
  have he : (ks ++ is).isEmpty = ks.isEmpty := by
    rcases h with ⟨rfl, rfl⟩ | ⟨_, _, h, _⟩
    · rfl
    · cases ks with
      | nil => exact absurd rfl h
      | cons => rfl
  refine ⟨⟨n, .mk (ps ++ us) (ks ++ is), ?_, ?_⟩, ?_, ?_⟩
  · rcases h with ⟨rfl, rfl⟩ | ⟨rfl, rfl, _⟩
    · exact .inl rfl
    · exact .inr rfl
  · show (ps ++ us).length ≤ 4294967296 ∧ (ks ++ is).length ≤ 4294967296
    rw [List.length_append, List.length_append]; omega
  · show [[D.lf (.bool (ks ++ is).isEmpty), D.row 2 RngX.ds (ps ++ us), D.row 3 (subE n) (ks ++ is)]] = [[D.lf (.bool ks.isEmpty), D.row 2 RngX.ds (ps ++ us), D.row 3 (subE n) (ks ++ is)]]
    rw [he]
  rintro _ _ ⟨rfl, rfl⟩
  conv => whnf
  exact ⟨⟨rfl, rfl⟩⟩
theorem sTog_ok : FnOk Try.prog 195 cTog := fnOk_of fun x => fnX_at tab_ok (SOk.cons sSplit_ok SOk.nil) mixed (fn := Try.f195) (code := body Try.f195) ⟨Try.func195, rfl, by kernel_rfl, by kernel_rfl, by kernel_rfl, by kernel_rfl⟩ (ev_sTog x)
end Go.Vm
namespace Go.Vm
open Go.Proofs
set_option maxRecDepth 100000
set_option linter.unusedVariables false
set_option linter.unusedSimpArgs false

structure DropS where
  n : Nat
  x : Tw
  b : Bool
  d : Nat
  h : x = .mk [] [] ∧ d = 1 ∨ Shp b d x
  hn : d ≤ n
  k : ByteArray
  hs : Srt x.all
theorem low_tog {d : Nat} {a b : Tw} (ha : Low d a) (hb : Low d b) : (a.ks = [] ∧ b.ks = [] ∨ a.ps = [] ∧ b.ps = [] ∧ a.ks ≠ [] ∧ b.ks ≠ []) ∧ (a.ps.length ≤ 4 ∧ b.ps.length ≤ 4 ∧ a.ks.length ≤ 4 ∧ b.ks.length ≤ 4) ∧ splitT (a.join b) = resplit a b := by
  cases ha with
  | leaf a2 =>
    rename_i ps
    cases hb with
    | leaf b2 =>
      rename_i us
      refine ⟨.inl ⟨rfl, rfl⟩, ⟨a2, b2, by simp [Tw.ks], by simp [Tw.ks]⟩, ?_⟩
      show two (splitP (ps ++ us)) = resplit (.mk ps []) (.mk us [])
      unfold splitP resplit
      simp only [Tw.ps, Tw.ks, Tw.join, List.append_nil, List.length_nil, Nat.add_zero, if_true]
      split <;> rfl
    | node b1 b2 b3 =>
      exfalso
      have := (b3 _ (List.getElem_mem (show 0 < _ by omega))).pos
      omega
  | node a1 a2 a3 =>
    rename_i d ks
    have hd := (a3 _ (List.getElem_mem (show 0 < _ by omega))).pos
    cases hb with
    | leaf b2 => omega
    | node b1 b2 b3 =>
      rename_i is
      have n1 : ks ≠ [] := by rintro rfl; simp at a1
      have n2 : is ≠ [] := by rintro rfl; simp at b1
      refine ⟨.inr ⟨rfl, rfl, n1, n2⟩, ⟨by simp [Tw.ps], by simp [Tw.ps], a2, b2⟩, ?_⟩
      cases ks with
      | nil => exact absurd rfl n1
      | cons c ks =>
        show two (splitK (c :: ks ++ is)) = resplit (.mk [] (c :: ks)) (.mk [] is)
        unfold splitK resplit
        simp only [Tw.ps, Tw.ks, Tw.join, List.append_nil, List.length_nil, Nat.zero_add]
        rw [if_neg (show ¬ (c :: ks ++ is).length = 0 by simp)]
        split <;> rfl
theorem delL_take {k : ByteArray} {l : List RngX} {i : Nat} {x : RngX} (h : l[i]? = some x) : delL k (l.take (i + 1)) = if x.lo = k then delL k (l.take i) else delL k (l.take i) ++ [x] := by
  rw [List.take_add_one, h]
  show delL k (l.take i ++ [x]) = _
  rw [delL_app]
  unfold delL
  rw [List.filter_cons, List.filter_nil]
  by_cases e : x.lo = k
  · rw [if_pos e, eqK_iff.2 e]; simp
  · rw [if_neg e]
    cases e2 : eqK x.lo k with
    | true => exact absurd (eqK_iff.1 e2) e
    | false => rfl
def cSDrop : Con := keepC DropS [(.keep, true), (.rd, false)] [true] (fun t => [subE t.n t.x, [.lf (.string t.k)]]) (fun t r => ∃ u j, r = [subE t.n (.mk u j)] ∧ t.x.drop t.d t.k = .mk u j)
theorem ev_sDrop : ∀ n x, (fun a => a.d) x = n → evFnX tab [(146, cSDrop.below (fun a => a.d) n), (1000003, cGh), (193, cWay), (194, (pureC FewX [(.rd, true)] [false] (fun t => [subE (t.n + 1) t.x]) (fun t => [[.lf (.bool t.x.few)]]))), (195, cTog)] cSDrop Try.f146 (body Try.f146) x := by
  rintro N ⟨n, ⟨ps, ks⟩, b, d, h, hn, k, hs⟩ rfl
  have hpos : 1 ≤ d := by rcases h with ⟨_, rfl⟩ | h; exact Nat.le_refl _; exact h.pos
  obtain ⟨n, rfl⟩ : ∃ m, n = m + 1 := ⟨n - 1, by omega⟩
  cases ks with
  | nil =>
    have hd : d = 1 := by rcases h with ⟨_, rfl⟩ | h; rfl; cases h; rfl; rename_i h1 _ _; simp at h1
    have hps : ps.length ≤ 4 := by rcases h with ⟨h, _⟩ | h; cases h; simp; cases h; assumption; rename_i h1 _ _; simp at h1
    subst hd
    conv => whnf
    refine ⟨[.row 208], ?_⟩
    conv => whnf
    refine ⟨RngX, RngX.ds, [], fun _ => rfl, rfl, ?_⟩
    conv => whnf
    intro _
    conv => whnf
    let S0 : Nat → Sl := fun i => [(17, .lf (.int .i64 i)), (16, .lf (.int .i64 ps.length)), (15, .sl 0 none), (5, .sl 208 none), (1, .lf (.string k)), (4, .pt 64 0 0)]
    let H0 : Nat → Hp := fun i => [(208, some (.row .own 2 RngX.ds (delL k (ps.take i)))), (64, some (.arr true 3 [[.lf (.bool false), .lf (.slice none 0 0), .lf (.slice none 0 0)]])), (0, some (.row .ro 2 RngX.ds ps))]
    refine ⟨fun m s h => ∃ i : Nat, i ≤ ps.length ∧ m = ps.length - i ∧ s = S0 i ∧ h = H0 i, ps.length, [(208, 208), (64, 64), (0, 0)], S0 0, H0 0, ⟨rfl, ⟨rfl, rfl, rfl, rfl, rfl, rfl, trivial⟩, rfl, rfl, rfl, trivial⟩, ⟨0, by omega, by omega, rfl, rfl⟩, ?_⟩
    rintro m _ _ ⟨i, g1, rfl, rfl, rfl⟩
    conv => whnf
    refine br2 (fun h5 => ?_) (fun h5 => ?_)
    · have hi : i < ps.length := by have := of_decide_eq_true h5; omega
      obtain ⟨x, hx⟩ := getL hi
      have hlen : (delL k (ps.take i)).length ≤ 4 := by
        have := delL_len k (ps.take i)
        rw [List.length_take] at this; omega
      have ht := delL_take (k := k) hx
      have hinc := incI hi (show ps.length ≤ 9223372036854775807 by omega)
      conv => whnf
      refine ⟨Int.natCast_nonneg _, ltI hx, ?_⟩
      conv => whnf
      refine ex2 _ (nthI hx) ?_
      conv => whnf
      refine br2 (fun h7 => ?_) (fun h7 => ?_)
      · have h7' : x.lo ≠ k := by
          replace h7 : (!strEq x.lo k) = true := h7
          rw [Bool.not_eq_true', strEq_no] at h7; exact h7
        rw [if_neg h7'] at ht
        conv => whnf
        refine ⟨[x], rfl, ?_, ?_⟩
        · show (delL k (ps.take i)).length + 1 ≤ 4294967296; omega
        conv => whnf
        refine ⟨ps.length - (i + 1), [(448, 208), (64, 64), (0, 0)], S0 (i + 1), H0 (i + 1), by omega, ⟨rfl, ⟨hinc, rfl, rfl, rfl, rfl, rfl, trivial⟩, ?_, rfl, rfl, trivial⟩, i + 1, by omega, rfl, rfl, rfl⟩
        show _ = some (Ob.row Kind.own 2 RngX.ds (delL k (ps.take (i + 1))))
        rw [ht]; rfl
      · have h7' : x.lo = k := by
          replace h7 : (!strEq x.lo k) = false := h7
          rw [Bool.not_eq_false', strEq_iff] at h7; exact h7
        rw [if_pos h7'] at ht
        conv => whnf
        refine ⟨ps.length - (i + 1), [(208, 208), (64, 64), (0, 0)], S0 (i + 1), H0 (i + 1), by omega, ⟨rfl, ⟨hinc, rfl, rfl, rfl, rfl, rfl, trivial⟩, ?_, rfl, rfl, trivial⟩, i + 1, by omega, rfl, rfl, rfl⟩
        show _ = some (Ob.row Kind.own 2 RngX.ds (delL k (ps.take (i + 1))))
        rw [ht]; rfl
    · have hi : i = ps.length := by have := of_decide_eq_false h5; omega
      subst hi
      conv => whnf
      refine ⟨3, Tw, subE n, subE_len n, ?_⟩
      conv => whnf
      refine ⟨⟨rfl, delL k ps, [], ?_, rfl⟩⟩
      show [subE (n + 1) (.mk (delL k (ps.take ps.length)) [])] = [subE (n + 1) (.mk (delL k ps) [])]
      rw [List.take_length]
  | cons c ks =>
    replace h : Shp b d (.mk ps (c :: ks)) := by rcases h with ⟨h, _⟩ | h; cases h; exact h
    cases h with
    | node h1 h2 h3 =>
    rename_i d
    replace hs : Srt (Tw.alls (c :: ks)) := by simpa [Tw.all] using hs
    have hn' : d ≤ n := by omega
    conv => whnf
    refine ⟨⟨n, c :: ks, d, h3, hn', h2, by simp, k⟩, rfl, ?_⟩
    rintro _ _ ⟨rfl, i, rfl, w⟩
    replace w : Way (c :: ks) k i := w
    have hi := w.lt
    have h2' : (c :: ks).length ≤ 4 := h2
    obtain ⟨y, hy⟩ := getL hi
    have hys := h3 y (List.mem_of_getElem? hy)
    have hyp := hys.pos
    obtain ⟨n, rfl⟩ : ∃ m, n = m + 1 := ⟨n - 1, by omega⟩
    have hsy : Srt y.all := by
      rw [Tw.alls_at hy, Srt.app, Srt.app] at hs
      exact hs.2.1.1
    have hwi : wayI (c :: ks) k = i := (wayI_way (by simp)).uniq w hs h3
    have hlow := (Tw.drop_ok k hys).1
    have hK : Kds d i ((c :: ks).set i (y.drop d k)) := Kds.set h3 hi hlow
    have hset : ((c :: ks).set i (y.drop d k))[i]? = some (y.drop d k) := by rw [List.getElem?_set, if_pos rfl, if_pos hi]
    have hdn := drop_node (n := d) (ps := []) hwi hy
    obtain ⟨us, is⟩ := y
    conv => whnf
    refine ⟨false, ?_⟩
    conv => whnf
    refine ⟨Tw, subE (n + 1), [], subE_len _, rfl, ?_⟩
    conv => whnf
    refine ⟨c :: ks, rfl, (by show 0 + (c :: ks).length ≤ 4294967296; omega), ?_⟩
    conv => whnf
    refine ⟨Int.natCast_nonneg _, ltI hy, ?_⟩
    conv => whnf
    refine ex2 _ (nthI hy) ?_
    conv => whnf
    refine ⟨⟨⟨n + 1, .mk us is, false, d, .inr hys, hn', k, hsy⟩, Nat.lt_succ_self _⟩, rfl, ?_⟩
    rintro _ _ ⟨rfl, du, dj, rfl, hdr⟩
    replace hdr : (Tw.mk us is).drop d k = .mk du dj := hdr
    rw [hdr] at hlow hK hset hdn
    conv => whnf
    refine ⟨Int.natCast_nonneg _, ltI hy, ?_⟩
    conv => whnf
    refine ex2 _ (nthI hy) ?_
    conv => whnf
    refine ⟨.mk du dj, rfl, ?_⟩
    conv => whnf
    refine ⟨Int.natCast_nonneg _, ltI hset, ?_⟩
    conv => whnf
    refine ex2 _ (nthI hset) ?_
    conv => whnf
    have hfl : dj = [] ∨ du = [] := by cases hlow; exact .inl rfl; exact .inr rfl
    refine ⟨⟨n, .mk du dj, hfl⟩, rfl, ?_⟩
    rintro _ _ ⟨rfl, rfl⟩
    conv => whnf
    have hLl : ((c :: ks).set i (.mk du dj)).length = (c :: ks).length := List.length_set
    have hne : ∀ {L : List Tw}, 1 ≤ L.length → L.isEmpty = false := fun {L} h => by cases L with | nil => simp at h | cons => rfl
    refine br2 (fun h6 => ?_) (fun h6 => ?_)
    · have h6' : (Tw.mk du dj).few = false := by
        replace h6 : (!(Tw.mk du dj).few) = true := h6
        rwa [Bool.not_eq_true'] at h6
      rw [h6'] at hdn
      conv => whnf
      refine ⟨2, RngX, RngX.ds, fun _ => rfl, ?_⟩
      conv => whnf
      refine ⟨⟨rfl, [], (c :: ks).set i (.mk du dj), ?_, hdn⟩⟩
      show [[D.lf (.bool false), D.row 2 RngX.ds [], D.row 3 (subE (n + 1)) ((c :: ks).set i (.mk du dj))]] = [[D.lf (.bool ((c :: ks).set i (.mk du dj)).isEmpty), D.row 2 RngX.ds [], D.row 3 (subE (n + 1)) ((c :: ks).set i (.mk du dj))]]
      rw [hne (by omega)]
    have h6' : (Tw.mk du dj).few = true := by
      replace h6 : (!(Tw.mk du dj).few) = false := h6
      rwa [Bool.not_eq_false'] at h6
    rw [h6'] at hdn
    obtain ⟨f, s, e1, e2, l1, l2, hor⟩ := hK.mend (by omega) hset h6'
    rw [if_pos rfl, mendL_eq e1 e2] at hdn
    obtain ⟨tg1, tg2, tg3⟩ := low_tog l1 l2
    obtain ⟨rs1, rs2, rs3, rs4⟩ := resplit_ok l1 l2 hor
    have hlt2 := (List.getElem?_eq_some_iff.1 e2).1
    conv => whnf
    obtain ⟨fu, fi⟩ := f
    obtain ⟨su, si⟩ := s
    intro _
    conv => whnf
    refine br2 (fun h8 => ?_) (fun h8 => ?_)
    · exfalso
      replace h8 : decide ((((c :: ks).set i (.mk du dj)).length : Int) < 2) = true := h8
      have := of_decide_eq_true h8
      omega
    conv => whnf
    refine br2 (fun h9 => ?_) (fun h9 => ?_)
    · have h9' : i = 0 := by
        replace h9 : ((i : Int) == 0) = true := h9
        simpa using h9
      have hA : (1 : Int) = ((i - 1 + 1 : Nat) : Int) := by omega
      have hw : IntKind.i64.wrap ((1 : Int) - 1) = ((i - 1 : Nat) : Int) := by rw [w64 (by omega) (by omega)]; omega
      have hwp : IntKind.i64.wrap ((1 : Int) + 1) = ((i - 1 + 2 : Nat) : Int) := by rw [w64 (by omega) (by omega)]; omega
      conv => whnf
      refine ⟨by decide, (show 0 ≤ IntKind.i64.wrap ((1 : Int) - 1) by rw [hw]; omega), (show IntKind.i64.wrap ((1 : Int) - 1) ≤ (((c :: ks).set i (.mk du dj)).length : Int) by rw [hw, hLl]; omega), ?_⟩
      conv => whnf
      refine ⟨false, ?_⟩
      conv => whnf
      refine ⟨Tw, subE (n + 1), [], subE_len _, rfl, ?_⟩
      conv => whnf
      refine ⟨(((c :: ks).set i (.mk du dj)).drop 0).take (IntKind.i64.wrap ((1 : Int) - 1) - 0).toNat, rfl, ?_, ?_⟩
      · show 0 + ((((c :: ks).set i (.mk du dj)).drop 0).take (IntKind.i64.wrap ((1 : Int) - 1) - 0).toNat).length ≤ 4294967296
        rw [List.length_take, List.length_drop]; omega
      conv => whnf
      refine ⟨(ixE hw e1).1, (ixE hw e1).2, ?_⟩
      conv => whnf
      refine ex2 _ (nthE hw e1) ?_
      conv => whnf
      refine ⟨(ixE hA e2).1, (ixE hA e2).2, ?_⟩
      conv => whnf
      refine ex2 _ (nthE hA e2) ?_
      conv => whnf
      refine ⟨⟨n, .mk fu fi, .mk su si, tg1, tg2⟩, rfl, ?_⟩
      rintro _ _ ⟨rfl, rfl⟩
      conv => whnf
      repeat ((first | refine rc_i rfl ?_ | refine rc_i (fun _ => rfl) ?_); conv => whnf)
      refine ⟨splitT ((Tw.mk fu fi).join (.mk su si)), rfl, ?_, ?_⟩
      · show ([] ++ (((c :: ks).set i (.mk du dj)).drop 0).take (IntKind.i64.wrap ((1 : Int) - 1) - 0).toNat).length + (splitT ((Tw.mk fu fi).join (.mk su si))).length ≤ 4294967296
        rw [List.nil_append, List.length_take, List.length_drop, tg3]; omega
      conv => whnf
      refine ⟨(show 0 ≤ IntKind.i64.wrap ((1 : Int) + 1) by rw [hwp]; omega), (show IntKind.i64.wrap ((1 : Int) + 1) ≤ (((c :: ks).set i (.mk du dj)).length : Int) by rw [hwp, hLl]; omega), Int.le_refl _, ?_⟩
      conv => whnf
      refine ⟨(((c :: ks).set i (.mk du dj)).drop (IntKind.i64.wrap ((1 : Int) + 1)).toNat).take ((((c :: ks).set i (.mk du dj)).length : Int) - IntKind.i64.wrap ((1 : Int) + 1)).toNat, rfl, ?_, ?_⟩
      · show ([] ++ (((c :: ks).set i (.mk du dj)).drop 0).take (IntKind.i64.wrap ((1 : Int) - 1) - 0).toNat ++ splitT ((Tw.mk fu fi).join (.mk su si))).length + ((((c :: ks).set i (.mk du dj)).drop (IntKind.i64.wrap ((1 : Int) + 1)).toNat).take ((((c :: ks).set i (.mk du dj)).length : Int) - IntKind.i64.wrap ((1 : Int) + 1)).toNat).length ≤ 4294967296
        rw [List.nil_append, List.length_append, List.length_take, List.length_take, List.length_drop, List.length_drop, tg3]; omega
      conv => whnf
      refine ⟨2, RngX, RngX.ds, fun _ => rfl, ?_⟩
      conv => whnf
      refine ⟨⟨rfl, [], ((c :: ks).set i (.mk du dj)).take (i - 1) ++ (resplit (.mk fu fi) (.mk su si) ++ ((c :: ks).set i (.mk du dj)).drop (i - 1 + 2)), ?_, hdn⟩⟩
      show [[D.lf (.bool false), D.row 2 RngX.ds [], D.row 3 (subE (n + 1)) ([] ++ (((c :: ks).set i (.mk du dj)).drop 0).take (IntKind.i64.wrap ((1 : Int) - 1) - 0).toNat ++ splitT ((Tw.mk fu fi).join (.mk su si)) ++ (((c :: ks).set i (.mk du dj)).drop (IntKind.i64.wrap ((1 : Int) + 1)).toNat).take ((((c :: ks).set i (.mk du dj)).length : Int) - IntKind.i64.wrap ((1 : Int) + 1)).toNat)]] = [[D.lf (.bool (((c :: ks).set i (.mk du dj)).take (i - 1) ++ (resplit (.mk fu fi) (.mk su si) ++ ((c :: ks).set i (.mk du dj)).drop (i - 1 + 2))).isEmpty), D.row 2 RngX.ds [], D.row 3 (subE (n + 1)) (((c :: ks).set i (.mk du dj)).take (i - 1) ++ (resplit (.mk fu fi) (.mk su si) ++ ((c :: ks).set i (.mk du dj)).drop (i - 1 + 2)))]]
      rw [tg3, hw, hwp, List.drop_zero, List.nil_append, List.append_assoc, show (((i - 1 : Nat) : Int) - 0).toNat = i - 1 by omega, Int.toNat_natCast, List.take_of_length_le (show (((c :: ks).set i (.mk du dj)).drop (i - 1 + 2)).length ≤ _ by rw [List.length_drop]; omega), hne (by rw [List.length_append, List.length_append]; omega)]
    · have h9' : i ≠ 0 := by
        replace h9 : ((i : Int) == 0) = false := h9
        simpa using h9
      have hA : ((i : Int) : Int) = ((i - 1 + 1 : Nat) : Int) := by omega
      have hw : IntKind.i64.wrap (((i : Int) : Int) - 1) = ((i - 1 : Nat) : Int) := by rw [w64 (by omega) (by omega)]; omega
      have hwp : IntKind.i64.wrap (((i : Int) : Int) + 1) = ((i - 1 + 2 : Nat) : Int) := by rw [w64 (by omega) (by omega)]; omega
      conv => whnf
      refine ⟨by decide, (show 0 ≤ IntKind.i64.wrap (((i : Int) : Int) - 1) by rw [hw]; omega), (show IntKind.i64.wrap (((i : Int) : Int) - 1) ≤ (((c :: ks).set i (.mk du dj)).length : Int) by rw [hw, hLl]; omega), ?_⟩
      conv => whnf
      refine ⟨false, ?_⟩
      conv => whnf
      refine ⟨Tw, subE (n + 1), [], subE_len _, rfl, ?_⟩
      conv => whnf
      refine ⟨(((c :: ks).set i (.mk du dj)).drop 0).take (IntKind.i64.wrap (((i : Int) : Int) - 1) - 0).toNat, rfl, ?_, ?_⟩
      · show 0 + ((((c :: ks).set i (.mk du dj)).drop 0).take (IntKind.i64.wrap (((i : Int) : Int) - 1) - 0).toNat).length ≤ 4294967296
        rw [List.length_take, List.length_drop]; omega
      conv => whnf
      refine ⟨(ixE hw e1).1, (ixE hw e1).2, ?_⟩
      conv => whnf
      refine ex2 _ (nthE hw e1) ?_
      conv => whnf
      refine ⟨(ixE hA e2).1, (ixE hA e2).2, ?_⟩
      conv => whnf
      refine ex2 _ (nthE hA e2) ?_
      conv => whnf
      refine ⟨⟨n, .mk fu fi, .mk su si, tg1, tg2⟩, rfl, ?_⟩
      rintro _ _ ⟨rfl, rfl⟩
      conv => whnf
      repeat ((first | refine rc_i rfl ?_ | refine rc_i (fun _ => rfl) ?_); conv => whnf)
      refine ⟨splitT ((Tw.mk fu fi).join (.mk su si)), rfl, ?_, ?_⟩
      · show ([] ++ (((c :: ks).set i (.mk du dj)).drop 0).take (IntKind.i64.wrap (((i : Int) : Int) - 1) - 0).toNat).length + (splitT ((Tw.mk fu fi).join (.mk su si))).length ≤ 4294967296
        rw [List.nil_append, List.length_take, List.length_drop, tg3]; omega
      conv => whnf
      refine ⟨(show 0 ≤ IntKind.i64.wrap (((i : Int) : Int) + 1) by rw [hwp]; omega), (show IntKind.i64.wrap (((i : Int) : Int) + 1) ≤ (((c :: ks).set i (.mk du dj)).length : Int) by rw [hwp, hLl]; omega), Int.le_refl _, ?_⟩
      conv => whnf
      refine ⟨(((c :: ks).set i (.mk du dj)).drop (IntKind.i64.wrap (((i : Int) : Int) + 1)).toNat).take ((((c :: ks).set i (.mk du dj)).length : Int) - IntKind.i64.wrap (((i : Int) : Int) + 1)).toNat, rfl, ?_, ?_⟩
      · show ([] ++ (((c :: ks).set i (.mk du dj)).drop 0).take (IntKind.i64.wrap (((i : Int) : Int) - 1) - 0).toNat ++ splitT ((Tw.mk fu fi).join (.mk su si))).length + ((((c :: ks).set i (.mk du dj)).drop (IntKind.i64.wrap (((i : Int) : Int) + 1)).toNat).take ((((c :: ks).set i (.mk du dj)).length : Int) - IntKind.i64.wrap (((i : Int) : Int) + 1)).toNat).length ≤ 4294967296
        rw [List.nil_append, List.length_append, List.length_take, List.length_take, List.length_drop, List.length_drop, tg3]; omega
      conv => whnf
      refine ⟨2, RngX, RngX.ds, fun _ => rfl, ?_⟩
      conv => whnf
      refine ⟨⟨rfl, [], ((c :: ks).set i (.mk du dj)).take (i - 1) ++ (resplit (.mk fu fi) (.mk su si) ++ ((c :: ks).set i (.mk du dj)).drop (i - 1 + 2)), ?_, hdn⟩⟩
      show [[D.lf (.bool false), D.row 2 RngX.ds [], D.row 3 (subE (n + 1)) ([] ++ (((c :: ks).set i (.mk du dj)).drop 0).take (IntKind.i64.wrap (((i : Int) : Int) - 1) - 0).toNat ++ splitT ((Tw.mk fu fi).join (.mk su si)) ++ (((c :: ks).set i (.mk du dj)).drop (IntKind.i64.wrap (((i : Int) : Int) + 1)).toNat).take ((((c :: ks).set i (.mk du dj)).length : Int) - IntKind.i64.wrap (((i : Int) : Int) + 1)).toNat)]] = [[D.lf (.bool (((c :: ks).set i (.mk du dj)).take (i - 1) ++ (resplit (.mk fu fi) (.mk su si) ++ ((c :: ks).set i (.mk du dj)).drop (i - 1 + 2))).isEmpty), D.row 2 RngX.ds [], D.row 3 (subE (n + 1)) (((c :: ks).set i (.mk du dj)).take (i - 1) ++ (resplit (.mk fu fi) (.mk su si) ++ ((c :: ks).set i (.mk du dj)).drop (i - 1 + 2)))]]
      rw [tg3, hw, hwp, List.drop_zero, List.nil_append, List.append_assoc, show (((i - 1 : Nat) : Int) - 0).toNat = i - 1 by omega, Int.toNat_natCast, List.take_of_length_le (show (((c :: ks).set i (.mk du dj)).drop (i - 1 + 2)).length ≤ _ by rw [List.length_drop]; omega), hne (by rw [List.length_append, List.length_append]; omega)]
theorem sDrop_ok : FnOk Try.prog 146 cSDrop := fn_rec (fun a => a.d) fun n hs x hx => fnX_at tab_ok (SOk.cons hs (SOk.cons gh_ok (SOk.cons sWay_ok (SOk.cons sFew_ok (SOk.cons sTog_ok SOk.nil))))) mixed (fn := Try.f146) (code := body Try.f146) ⟨Try.func146, rfl, by kernel_rfl, by kernel_rfl, by kernel_rfl, by kernel_rfl⟩ (ev_sDrop n x hx)
end Go.Vm
namespace Go.Vm
open Go.Proofs
set_option maxRecDepth 100000
set_option linter.unusedVariables false
set_option linter.unusedSimpArgs false

theorem Low.topOk {d n : Nat} {y : Tw} (h : Low d y) (hd : d ≤ n + 1) (hl : y.all.length ≤ 4194304) : TopOk n y := by
  cases h with
  | leaf h2 => exact .inl ⟨_, rfl, h2⟩
  | node h1 h2 h3 =>
    rename_i d ks
    match ks, h1, h2, h3, hl with
    | [c], h1, h2, h3, hl =>
      have hc := h3 c (by simp)
      have := hc.root.manyR.2.2.1
      have e : (Tw.mk [] [c]).all = c.all := by simp [Tw.all, Tw.alls]
      rw [e] at hl
      exact .inr (.inl ⟨c, d, rfl, hc.root, by omega, by omega⟩)
    | c :: c2 :: r, h1, h2, h3, hl =>
      have hx : Shp true (d + 1) (.mk [] (c :: c2 :: r)) := .node (by simp) h2 h3
      have := hx.manyR.2.2.1
      exact .inr (.inr ⟨d, [], c, c2, r, rfl, hx, by omega, by omega⟩)
structure TDropOk (o : Option Tw) (x : Tw) (k : ByteArray) (d : Nat) : Prop where
  le : d ≤ 7
  shp : x = .mk [] [] ∧ d = 1 ∨ Shp true d x
  srt : Srt x.all
  top : (x.drop d k).top = dropO o k
  ok : TopOk 12 (x.drop d k)
theorem drop_root {o : Option Tw} {us : List RngX} {is : List Tw} (k : ByteArray) (ho : Vo o) (h : o = none ∧ us = [] ∧ is = [] ∨ o = some (.mk us is) ∧ ∃ d, Shp true d (.mk us is) ∧ d ≤ 7) : ∃ d, TDropOk o (.mk us is) k d := by
  rcases h with ⟨rfl, rfl, rfl⟩ | ⟨rfl, d, hd, hd7⟩
  · exact ⟨1, by omega, .inl ⟨rfl, rfl⟩, List.Pairwise.nil, rfl, .inl ⟨[], rfl, by simp⟩⟩
  · have hs : Srt (Tw.mk us is).all := ho.ok.srt
    have e := hd.deep
    obtain ⟨h1, h2⟩ := Tw.drop_ok k hd
    refine ⟨d, hd7, .inr hd, hs, by simp only [dropO, e], h1.topOk (by omega) ?_⟩
    rw [h2 hs]
    have := delL_len k (Tw.mk us is).all
    have : (Tw.mk us is).all.length ≤ 200 := ho.ok.len
    omega
structure TDropX where
  t : TreeX
  k : ByteArray
structure TDropR (N : List NodeX) (k : ByteArray) (N' : List NodeX) (ok : Bool) : Prop where
  yes : ∀ o, Vo o → N = layO o → keyOkB k = true → ok = true ∧ N' = layO (dropO o k)
  no : (TreeP N → keyOkB k = false) → ok = false ∧ N' = []
def cTreeDrop : Con := relC TDropX [(.rd, true), (.rd, false)] [true, false] (fun x => [[.row 3 NodeX.ds x.t.N], [.lf (.string x.k)]]) (fun x r => ∃ N' ok, r = [[.row 3 NodeX.ds N'], [.lf (.bool ok)]] ∧ TDropR x.t.N x.k N' ok)
theorem ev_sTreeDrop : ∀ x, evFnX tab [(57, cTreeOk), (142, cKeyOk), (131, cSRoot), (146, cSDrop), (145, cSTree)] cTreeDrop Try.f64 (body Try.f64) x := by
  rintro ⟨⟨N, f, hf, hN, hp⟩, k⟩
  replace hN : N.length ≤ 1048576 := hN
  conv => whnf
  refine ⟨⟨N, f, hf, hN, hp⟩, rfl, ?_⟩
  rintro _ _ ⟨rfl, b, rfl, e⟩
  conv => whnf
  replace e : b = true ↔ TreeP N := e
  cases b with
  | false =>
    have h1' : ¬ TreeP N := fun h => by have := e.2 h; cases this
    conv => whnf
    refine ⟨3, NodeX, NodeX.ds, fun _ => rfl, ?_⟩
    conv => whnf
    exact ⟨⟨rfl, [], false, rfl, fun o ho e _ => absurd ⟨o, ho, e⟩ h1', fun _ => ⟨rfl, rfl⟩⟩⟩
  | true =>
  have hT : TreeP N := e.1 rfl
  conv => whnf
  refine ⟨k, rfl, ?_⟩
  rintro _ _ ⟨rfl, rfl⟩
  conv => whnf
  cases hk : keyOkB k with
  | false =>
    conv => whnf
    refine ⟨3, NodeX, NodeX.ds, fun _ => rfl, ?_⟩
    conv => whnf
    exact ⟨⟨rfl, [], false, rfl, fun o ho e h => (by replace h : keyOkB k = true := h; rw [hk] at h; cases h), fun _ => ⟨rfl, rfl⟩⟩⟩
  | true =>
  conv => whnf
  refine ⟨⟨N, f, hf, hN, hp⟩, rfl, ?_⟩
  rintro _ _ ⟨rfl, o, ok, rfl, rs⟩
  obtain ⟨rfl, us, is, o', rfl, ho, e', hcase⟩ := root_tree rs hT
  obtain ⟨d, pk⟩ := drop_root k ho hcase
  conv => whnf
  refine ⟨⟨13, .mk us is, true, d, pk.shp, Nat.le_trans pk.le (by omega), k, pk.srt⟩, rfl, ?_⟩
  rintro _ _ ⟨rfl, du, dj, rfl, hdr⟩
  replace hdr : (Tw.mk us is).drop d k = .mk du dj := hdr
  have h1 := pk.top
  have h2 := pk.ok
  rw [hdr] at h1 h2
  conv => whnf
  refine ⟨⟨12, .mk du dj, h2⟩, rfl, ?_⟩
  rintro _ _ ⟨rfl, rfl⟩
  conv => whnf
  refine ⟨⟨rfl, _, true, rfl, fun o ho2 e2 _ => ⟨rfl, ?_⟩, fun h => ?_⟩⟩
  · have : o = o' := layO_inj (by rw [← e2, ← e'])
    subst this
    show layO (Tw.mk du dj).top = _
    rw [h1]
  · have := h hT
    replace this : keyOkB k = false := this
    rw [hk] at this; cases this
theorem sTreeDrop_ok : FnOk Try.prog 64 cTreeDrop := fnOk_of fun x => fnX_at tab_ok (SOk.cons sTreeOk_ok (SOk.cons sKeyOk_ok (SOk.cons sRoot_ok (SOk.cons sDrop_ok (SOk.cons sTree_ok SOk.nil))))) mixed (fn := Try.f64) (code := body Try.f64) ⟨Try.func64, rfl, by kernel_rfl, by kernel_rfl, by kernel_rfl, by kernel_rfl⟩ (ev_sTreeDrop x)
end Go.Vm
