/- Contracts: numbers in digits. -/
import Derived.Test.YtlbeppaimfpchaaKa
namespace Go.Vm
open Go.Proofs
set_option maxRecDepth 100000
set_option linter.unusedVariables false
set_option linter.unusedSimpArgs false

def numL (n : Nat) : List UInt8 := if n < 10 then [UInt8.ofNat (48 + n)] else numL (n / 10) ++ [UInt8.ofNat (48 + n % 10)]
theorem numL_lt {n : Nat} (h : n < 10) : numL n = [UInt8.ofNat (48 + n)] := by rw [numL, if_pos h]
theorem numL_ge {n : Nat} (h : ¬ n < 10) : numL n = numL (n / 10) ++ [UInt8.ofNat (48 + n % 10)] := by rw [numL, if_neg h]
theorem numL_len {n k : Nat} (h : n < 10 ^ (k + 1)) : (numL n).length ≤ k + 1 := by
  induction k generalizing n with
  | zero => rw [numL_lt (by simpa using h)]; simp
  | succ k ih =>
    by_cases h0 : n < 10
    · rw [numL_lt h0]; simp
    · rw [numL_ge h0]
      have := ih (n := n / 10) (by rw [Nat.pow_succ] at h; exact Nat.div_lt_of_lt_mul (by omega))
      simp; omega
theorem numL_pos (n : Nat) : 1 ≤ (numL n).length := by
  by_cases h : n < 10
  · rw [numL_lt h]; simp
  · rw [numL_ge h]; simp
def numT (n : Int) : ByteArray := if numB n then ofB (numL n.toNat) else ⟨#[]⟩
theorem numT_no {n : Int} (h : numB n = false) : numT n = ⟨#[]⟩ := by rw [numT, if_neg (by rw [h]; simp)]
theorem numT_yes {k : Nat} (h : k ≤ 1099511627775) : numT (k : Int) = ofB (numL k) := by rw [numT, if_pos (by simp [numB]; omega), Int.toNat_natCast]
theorem numT_size (n : Int) : (numT n).size ≤ 13 := by
  unfold numT
  split
  · rename_i h
    rw [of_size]
    have : n.toNat < 10 ^ 13 := by simp [numB] at h; omega
    exact numL_len (k := 12) this
  · decide
def cNumText : Con := pureC IX [(.rd, false)] [false] (fun x => [[.lf (.int .i64 x.n)]]) (fun x => [[.lf (.string (numT x.n))]])
theorem dig_u8 {n : Int} {k : Nat} (h : n = k) (hk : k < 208) : IntKind.u8.wrap (IntKind.i64.wrap (48 + n)) = ((UInt8.ofNat (48 + k)).toNat : Int) := by
  subst h
  exact u8_of (k := 48 + k) (by rw [w64 (by omega) (by omega)]; omega) (by omega)
theorem ev_sNumText : ∀ n x, (fun x => x.n.toNat) x = n → evFnX tab [(78, cNumText.below (fun x => x.n.toNat) n), (114, cNum)] cNumText Try.f78 (body Try.f78) x := by
  rintro q ⟨n, h1, h2⟩ rfl
  conv => whnf
  refine ⟨⟨n, h1, h2⟩, rfl, ?_⟩
  rintro _ _ ⟨rfl, rfl⟩
  conv => whnf
  refine br2 (fun h3 => ?_) (fun h3 => ?_)
  · have h3' : numB n = false := by simpa using h3
    conv => whnf
    refine ⟨⟨rfl, ?_⟩⟩
    show _ = [[D.lf (.string (numT n))]]
    rw [numT_no h3']
  have h3' : numB n = true := by simpa using h3
  obtain ⟨h4, h5⟩ : 0 ≤ n ∧ n ≤ 1099511627775 := by simpa [numB] using h3'
  obtain ⟨k, rfl⟩ : ∃ k : Nat, n = k := ⟨n.toNat, by omega⟩
  conv => whnf
  refine br2 (fun h6 => ?_) (fun h6 => ?_)
  · have h6' : k < 10 := by have h6' : (k : Int) < 10 := of_decide_eq_true h6; omega
    conv => whnf
    refine ⟨[UInt8.ofNat (48 + k)], by
      show [[D.lf (.int .u8 (IntKind.u8.wrap (IntKind.i64.wrap (48 + (k : Int)))))]] = _
      rw [dig_u8 rfl (by omega)]; rfl, ?_⟩
    conv => whnf
    refine ⟨⟨rfl, ?_⟩⟩
    show _ = [[D.lf (.string (numT (k : Int)))]]
    rw [numT_yes (by omega), numL_lt h6']; rfl
  have h6' : ¬ k < 10 := by have h6' : ¬ (k : Int) < 10 := of_decide_eq_false h6; omega
  have hd : IntKind.i64.wrap ((k : Int).tdiv 10) = ((k / 10 : Nat) : Int) := by rw [tdiv10, w64 (by omega) (by omega)]
  have hE : [[D.lf (.int .u8 (IntKind.u8.wrap (IntKind.i64.wrap (48 + (k : Int).tmod 10))))]] = [UInt8.ofNat (48 + k % 10)].map encB := by
    rw [dig_u8 (tmod10 k) (by omega)]; rfl
  have hI : [[D.lf (.int .i64 ((k / 10 : Nat) : Int))]] = [[D.lf (.int .i64 (IntKind.i64.wrap ((k : Int).tdiv 10)))]] := by rw [hd]
  have hs := numT_size ((k / 10 : Nat) : Int)
  have hF : [[D.lf (.string (numT ((k / 10 : Nat) : Int) ++ ⟨[UInt8.ofNat (48 + k % 10)].toArray⟩))]] = [[D.lf (.string (numT (k : Int)))]] := by
    rw [numT_yes (k := k) (by omega), numT_yes (k := k / 10) (by omega), numL_ge h6']
    congr 4
  repeat' ((conv => whnf); first
    | refine rc_i rfl ?_
    | refine rc_i ⟨_, hE, rfl⟩ ?_
    | refine ⟨_, hE, ?_⟩
    | (refine ⟨⟨⟨((k / 10 : Nat) : Int), by omega, by omega⟩, (show ((k / 10 : Nat) : Int).toNat < (k : Int).toNat by omega)⟩, hI, ?_⟩; rintro _ _ ⟨rfl, rfl⟩)
    | refine ⟨(show (numT ((k / 10 : Nat) : Int)).size + 1 ≤ 4294967296 by omega), ?_⟩
    | exact ⟨⟨rfl, hF⟩⟩
    | refine ⟨?_, ?_⟩)
theorem sNumText_ok : FnOk Try.prog 78 cNumText := fn_rec (fun x => x.n.toNat) fun n hs x hx => fnX_at tab_ok (SOk.cons hs (SOk.cons l01Num_ok SOk.nil)) mixed (fn := Try.f78) (code := body Try.f78) ⟨Try.func78, rfl, by kernel_rfl, by kernel_rfl, by kernel_rfl, by kernel_rfl⟩ (ev_sNumText n x hx)
end Go.Vm
namespace Go.Vm
open Go.Proofs
set_option maxRecDepth 100000
set_option linter.unusedVariables false
set_option linter.unusedSimpArgs false

structure CurX where
  b : List UInt8
  i : Int
  h : Int
  hb : b.length ≤ 1048576
  h1 : 0 ≤ i
  h2 : i ≤ b.length
  h3 : -9223372036854775808 ≤ h
  h4 : h ≤ 9223372036854775807
def CurX.d (c : CurX) : D := .box [.sh (.row 1 encB c.b), .lf (.int .i64 c.i), .lf (.int .i64 c.h)]
theorem wrap_lo (n : Int) : -9223372036854775808 ≤ IntKind.i64.wrap n := by simp [IntKind.wrap, IntKind.bits, IntKind.signed]; omega
theorem wrap_hi (n : Int) : IntKind.i64.wrap n ≤ 9223372036854775807 := by simp [IntKind.wrap, IntKind.bits, IntKind.signed]; omega
theorem and255 (a : Int) : 0 ≤ IntKind.i64.wrap ((BitVec.ofInt 64 a &&& BitVec.ofInt 64 255).toNat : Int) ∧ IntKind.i64.wrap ((BitVec.ofInt 64 a &&& BitVec.ofInt 64 255).toNat : Int) ≤ 255 := by
  have h : (BitVec.ofInt 64 a &&& BitVec.ofInt 64 255).toNat ≤ 255 := by
    rw [BitVec.toNat_and]
    exact Nat.le_trans Nat.and_le_right (by decide)
  rw [w64 (by omega) (by omega)]; omega
/-- What a draw of a number tells: it is within bounds. -/
def cByte : Con := { X := CurX, params := [(.mut, false)], res := [false], resOwn := true, ins := fun c => [[c.d]], post := fun _ outs r => ∃ (c : CurX) (v : Int), outs = [[c.d]] ∧ r = [[.lf (.int .i64 v)]] ∧ 0 ≤ v ∧ v ≤ 255 }
structure CodeX where
  b : List UInt8
  hb : b.length ≤ 1048576
def cNew : Con := { X := CodeX, params := [(.keep, false)], res := [false], resOwn := true, ins := fun c => [[.row 1 encB c.b]], post := fun _ outs r => outs = [] ∧ ∃ c : CurX, r = [[c.d]] }
theorem ev_l01New : ∀ x, evFnX tab [] cNew Try.f107 (body Try.f107) x := by
  rintro ⟨l, hb⟩
  conv => whnf
  intro _
  conv => whnf
  have hw : IntKind.i64.wrap (789392 + (l.length : Int)) = 789392 + (l.length : Int) := w64 (by omega) (by omega)
  refine ⟨fun m s h => ∃ (i : Nat) (q : Int), i ≤ l.length ∧ m = l.length - i ∧ -9223372036854775808 ≤ q ∧ q ≤ 9223372036854775807 ∧ s = [(0, .sl 0 none), (3, .lf (.int .i64 q)), (4, .lf (.int .i64 i))] ∧ h = [(0, some (.row .ro 1 encB l))],
    l.length, [(0, 0)], [(0, .sl 0 none), (3, .lf (.int .i64 _)), (4, .lf (.int .i64 0))], [(0, some (.row .ro 1 encB l))], ⟨rfl, ⟨rfl, rfl, rfl, trivial⟩, rfl, trivial⟩, ⟨0, _, by omega, by omega, wrap_lo _, wrap_hi _, rfl, rfl⟩, ?_⟩
  rintro m _ _ ⟨i, q, g1, rfl, g2, g3, rfl, rfl⟩
  conv => whnf
  intro _
  conv => whnf
  have out : ∃ c : CurX, [[D.box [.sh (.row 1 encB l), .lf (.int .i64 0), .lf (.int .i64 q)]]] = [[c.d]] := ⟨⟨l, 0, q, hb, by omega, by omega, g2, g3⟩, rfl⟩
  refine br2 (fun h5 => ?_) (fun h5 => ?_)
  · have hi : i < l.length := by have := of_decide_eq_true h5; omega
    obtain ⟨y, hy⟩ := getL hi
    conv => whnf
    refine br2 (fun h6 => ?_) (fun h6 => ?_)
    · conv => whnf
      refine ⟨Int.natCast_nonneg _, (show (i : Int) < (l.length : Int) by omega), ?_⟩
      conv => whnf
      refine ex2 y (nthI hy) ?_
      conv => whnf
      refine ⟨l.length - (i + 1), [(0, 0)], [(0, .sl 0 none), (3, .lf (.int .i64 _)), (4, .lf (.int .i64 ((i + 1 : Nat) : Int)))], [(0, some (.row .ro 1 encB l))], by omega, ⟨rfl, ⟨rfl, rfl, ?_, trivial⟩, rfl, trivial⟩, i + 1, _, by omega, rfl, wrap_lo _, wrap_hi _, rfl, rfl⟩
      show V.lf (.int .i64 (IntKind.i64.wrap ((i : Int) + 1))) = _
      rw [w64 (by omega) (by omega)]; rfl
    · conv => whnf
      exact ⟨⟨rfl, out⟩⟩
  · conv => whnf
    exact ⟨⟨rfl, out⟩⟩
theorem l01New_ok : FnOk Try.prog 107 cNew := fnOk_of fun x => fnX_at tab_ok (SOk.nil) mixed (fn := Try.f107) (code := body Try.f107) ⟨Try.func107, rfl, by kernel_rfl, by kernel_rfl, by kernel_rfl, by kernel_rfl⟩ (ev_l01New x)
theorem ev_l01Byte : ∀ x, evFnX tab [] cByte Try.f183 (body Try.f183) x := by
  rintro ⟨l, i, q, hb, h1, h2, h3, h4⟩
  replace hb : l.length ≤ 1048576 := hb
  replace h2 : i ≤ (l.length : Int) := h2
  conv => whnf
  intro _
  conv => whnf
  refine br2 (fun h5 => ?_) (fun h5 => ?_)
  · have hi : i < (l.length : Int) := of_decide_eq_true h5
    obtain ⟨y, hy⟩ := getL (l := l) (j := i.toNat) (by omega)
    have hy2 : nth l i.toNat = some y := by rw [nth_eq]; exact hy
    conv => whnf
    refine ⟨h1, hi, ?_⟩
    conv => whnf
    refine ex2 y hy2 ?_
    conv => whnf
    repeat ((first | refine rc_i rfl ?_ | refine rc_i (fun _ => rfl) ?_); conv => whnf)
    have e1 : IntKind.i64.wrap (i + 1) = i + 1 := w64 (by omega) (by omega)
    refine ⟨⟨⟨l, IntKind.i64.wrap (i + 1), IntKind.i64.wrap (IntKind.i64.wrap (q * 6364136223846793005) + 1442695040888963407), hb, by omega, by omega, wrap_lo _, wrap_hi _⟩, _, rfl, rfl, (and255 _).1, (and255 _).2⟩⟩
  · conv => whnf
    exact ⟨⟨⟨l, i, _, hb, h1, h2, wrap_lo _, wrap_hi _⟩, _, rfl, rfl, (and255 _).1, (and255 _).2⟩⟩
theorem l01Byte_ok : FnOk Try.prog 183 cByte := fnOk_of fun x => fnX_at tab_ok (SOk.nil) mixed (fn := Try.f183) (code := body Try.f183) ⟨Try.func183, rfl, by kernel_rfl, by kernel_rfl, by kernel_rfl, by kernel_rfl⟩ (ev_l01Byte x)
structure BelowX where
  c : CurX
  n : Int
  h : n ≤ 9223372036854775807
def cBelow : Con := { X := BelowX, params := [(.mut, false), (.rd, false)], res := [false], resOwn := true, ins := fun x => [[x.c.d], [.lf (.int .i64 x.n)]], post := fun x outs r => ∃ (c : CurX) (v : Int), outs = [[c.d]] ∧ r = [[.lf (.int .i64 v)]] ∧ 0 ≤ v ∧ (0 < x.n → v < x.n) ∧ (x.n ≤ 0 → v = 0) }
theorem ev_l01Below : ∀ x, evFnX tab [(183, cByte)] cBelow Try.f125 (body Try.f125) x := by
  rintro ⟨c, n, h⟩
  conv => whnf
  refine br2 (fun h5 => ?_) (fun h5 => ?_)
  · have h5' : n ≤ 0 := of_decide_eq_true h5
    conv => whnf
    exact ⟨⟨c, 0, rfl, rfl, by omega, fun h => absurd h (show ¬ 0 < n by omega), fun _ => rfl⟩⟩
  have h5' : 0 < n := by have h6 : ¬ n ≤ 0 := of_decide_eq_false h5; omega
  have hrem : ∀ a : Int, 0 ≤ a → 0 ≤ a.tmod n ∧ a.tmod n < n := fun a ha => ⟨Int.tmod_nonneg _ ha, Int.tmod_lt_of_pos _ h5'⟩
  conv => whnf
  refine br2 (fun h6 => ?_) (fun h6 => ?_)
  · conv => whnf
    refine ⟨c, rfl, ?_⟩
    rintro _ _ ⟨c1, v1, rfl, rfl, a1, b1⟩
    conv => whnf
    refine br2 (fun h7 => ?_) (fun h7 => ?_)
    · exfalso; have : n = 0 := of_decide_eq_true h7; omega
    conv => whnf
    exact ⟨⟨c1, v1.tmod n, rfl, rfl, (hrem v1 a1).1, fun _ => (hrem v1 a1).2, fun h => absurd h (show ¬ n ≤ 0 by omega)⟩⟩
  conv => whnf
  refine ⟨c, rfl, ?_⟩
  rintro _ _ ⟨c1, v1, rfl, rfl, a1, b1⟩
  conv => whnf
  refine ⟨c1, rfl, ?_⟩
  rintro _ _ ⟨c2, v2, rfl, rfl, a2, b2⟩
  conv => whnf
  refine ⟨c2, rfl, ?_⟩
  rintro _ _ ⟨c3, v3, rfl, rfl, a3, b3⟩
  conv => whnf
  refine ⟨c3, rfl, ?_⟩
  rintro _ _ ⟨c4, v4, rfl, rfl, a4, b4⟩
  conv => whnf
  refine br2 (fun h7 => ?_) (fun h7 => ?_)
  · exfalso; have : n = 0 := of_decide_eq_true h7; omega
  conv => whnf
  have e1 : 0 ≤ IntKind.i64.wrap (IntKind.i64.wrap (IntKind.i64.wrap (IntKind.i64.wrap (v1 * 16777216) + IntKind.i64.wrap (v2 * 65536)) + IntKind.i64.wrap (v3 * 256)) + v4) := by
    rw [w64 (n := v1 * 16777216) (by omega) (by omega), w64 (n := v2 * 65536) (by omega) (by omega), w64 (n := v3 * 256) (by omega) (by omega), w64 (n := v1 * 16777216 + v2 * 65536) (by omega) (by omega),
      w64 (n := v1 * 16777216 + v2 * 65536 + v3 * 256) (by omega) (by omega), w64 (by omega) (by omega)]
    omega
  exact ⟨⟨c4, _, rfl, rfl, (hrem _ e1).1, fun _ => (hrem _ e1).2, fun h => absurd h (show ¬ n ≤ 0 by omega)⟩⟩
theorem l01Below_ok : FnOk Try.prog 125 cBelow := fnOk_of fun x => fnX_at tab_ok (SOk.cons l01Byte_ok SOk.nil) mixed (fn := Try.f125) (code := body Try.f125) ⟨Try.func125, rfl, by kernel_rfl, by kernel_rfl, by kernel_rfl, by kernel_rfl⟩ (ev_l01Below x)
/-- A draw: what it tells has property P. -/
def cDraw {α : Type} (g : Bool) (enc : α → List D) (P : α → Prop) : Con := { X := CurX, params := [(.mut, false)], res := [g], resOwn := true, ins := fun c => [[c.d]], post := fun _ outs r => ∃ (c : CurX) (a : α), outs = [[c.d]] ∧ r = [enc a] ∧ P a }
def intE (n : Int) : List D := [.lf (.int .i64 n)]
def strE (s : ByteArray) : List D := [.lf (.string s)]
/-- One of a few texts, of a few numbers. -/
def strEls (k : Nat) : List (List V) → Bool
  | [] => true
  | [.lf (.string s)] :: r => match Nat.ble s.size k with | true => strEls k r | false => false
  | _ => false
def intEls : List (List V) → Bool
  | [] => true
  | [.lf (.int .i64 n)] :: r => match decide (-9223372036854775808 ≤ n), decide (n ≤ 9223372036854775807) with | true, true => intEls r | _, _ => false
  | _ => false
theorem exStr (k : Nat) {els : List (List V)} {i : Nat} {Q : List V → Prop} (ha : strEls k els = true) (hi : i < els.length) (h : ∀ s : ByteArray, s.size ≤ k → Q [.lf (.string s)]) : ex (nth els i) Q := by
  induction els generalizing i with
  | nil => simp at hi
  | cons e r ih =>
    unfold strEls at ha
    split at ha
    · rename_i h0; cases h0
    · rename_i s r' h0
      cases h0
      split at ha
      · rename_i hs
        cases i with
        | zero => exact h s (Nat.le_of_ble_eq_true hs)
        | succ i => exact ih ha (by simpa using hi)
      · cases ha
    · cases ha
theorem exInt {els : List (List V)} {i : Nat} {Q : List V → Prop} (ha : intEls els = true) (hi : i < els.length) (h : ∀ n : Int, -9223372036854775808 ≤ n → n ≤ 9223372036854775807 → Q [.lf (.int .i64 n)]) : ex (nth els i) Q := by
  induction els generalizing i with
  | nil => simp at hi
  | cons e r ih =>
    unfold intEls at ha
    split at ha
    · rename_i h0; cases h0
    · rename_i s r' h0
      cases h0
      split at ha
      · rename_i hs1 hs2
        cases i with
        | zero => exact h s (of_decide_eq_true hs1) (of_decide_eq_true hs2)
        | succ i => exact ih ha (by simpa using hi)
      · cases ha
    · cases ha
def intP (n : Int) : Prop := -9223372036854775808 ≤ n ∧ n ≤ 9223372036854775807
def strP (k : Nat) (s : ByteArray) : Prop := s.size ≤ k
theorem useBelow {c : CurX} {n : Int} {ds : List (List D)} {Q : List (List D) → List (List D) → Prop} (hd : [[c.d], [.lf (.int .i64 n)]] = ds) (hn : n ≤ 9223372036854775807)
    (h : ∀ (c' : CurX) (v : Int), 0 ≤ v → (0 < n → v < n) → (n ≤ 0 → v = 0) → Q [[c'.d]] [[.lf (.int .i64 v)]]) : ∃ x, cBelow.ins x = ds ∧ ∀ outs res, cBelow.post x outs res → Q outs res := by
  refine ⟨⟨c, n, hn⟩, hd, ?_⟩
  rintro _ _ ⟨c1, v, rfl, rfl, a1, a2, a3⟩
  exact h c1 v a1 a2 a3
theorem useDraw {α : Type} {g : Bool} {enc : α → List D} {P : α → Prop} {c : CurX} {ds : List (List D)} {Q : List (List D) → List (List D) → Prop} (hd : [[c.d]] = ds)
    (h : ∀ (c' : CurX) (a : α), P a → Q [[c'.d]] [enc a]) : ∃ x, (cDraw g enc P).ins x = ds ∧ ∀ outs res, (cDraw g enc P).post x outs res → Q outs res := by
  refine ⟨c, hd, ?_⟩
  rintro _ _ ⟨c1, a, rfl, rfl, a1⟩
  exact h c1 a a1
theorem ev_l08User : ∀ x, evFnX tab [(125, cBelow)] (cDraw false strE (strP 16)) Try.f209 (body Try.f209) x := by
  intro c
  conv => whnf
  refine useBelow (c := c) (n := 24) rfl (by decide) fun c v a1 a2 _ => ?_
  replace a2 : v < 24 := a2 (by decide)
  conv => whnf
  have h1 : 0 ≤ v.tmod 12 := Int.tmod_nonneg _ a1
  have h2 : v.tmod 12 < 12 := Int.tmod_lt_of_pos _ (by decide)
  refine ⟨h1, h2, ?_⟩
  conv => whnf
  refine exStr 16 ?_ ?_ fun s hs => ?_
  · rfl
  · show (v.tmod 12).toNat < 12; omega
  conv => whnf
  exact ⟨⟨c, s, rfl, rfl, hs⟩⟩
theorem l08User_ok : FnOk Try.prog 209 (cDraw false strE (strP 16)) := fnOk_of fun x => fnX_at tab_ok (SOk.cons l01Below_ok SOk.nil) mixed (fn := Try.f209) (code := body Try.f209) ⟨Try.func209, rfl, by kernel_rfl, by kernel_rfl, by kernel_rfl, by kernel_rfl⟩ (ev_l08User x)
theorem ev_l08Uval : ∀ x, evFnX tab [(125, cBelow)] (cDraw false strE (strP 20)) Try.f210 (body Try.f210) x := by
  intro c
  conv => whnf
  refine useBelow (c := c) (n := 6) rfl (by decide) fun c v a1 a2 _ => ?_
  replace a2 : v < 6 := a2 (by decide)
  conv => whnf
  refine ⟨a1, a2, ?_⟩
  conv => whnf
  refine exStr 20 ?_ ?_ fun s hs => ?_
  · rfl
  · show v.toNat < 6; omega
  conv => whnf
  exact ⟨⟨c, s, rfl, rfl, hs⟩⟩
theorem l08Uval_ok : FnOk Try.prog 210 (cDraw false strE (strP 20)) := fnOk_of fun x => fnX_at tab_ok (SOk.cons l01Below_ok SOk.nil) mixed (fn := Try.f210) (code := body Try.f210) ⟨Try.func210, rfl, by kernel_rfl, by kernel_rfl, by kernel_rfl, by kernel_rfl⟩ (ev_l08Uval x)
theorem ev_l01Raw : ∀ x, evFnX tab [(125, cBelow)] (cDraw false intE intP) Try.f126 (body Try.f126) x := by
  intro c
  conv => whnf
  refine useBelow (c := c) (n := 10) rfl (by decide) fun c k k1 k2 _ => ?_
  have done : ∀ (c : CurX) (v : Int), intP v → ∃ (c' : CurX) (a : Int), [[c.d]] = [[c'.d]] ∧ [[D.lf (.int .i64 v)]] = [intE a] ∧ intP a := fun c v h => ⟨c, v, rfl, rfl, h⟩
  conv => whnf
  refine br2 (fun _ => ?_) (fun _ => ?_)
  · conv => whnf
    refine useBelow (c := c) (n := 20) rfl (by decide) fun c v a1 a2 _ => ?_
    replace a2 : v < 20 := a2 (by decide)
    conv => whnf
    exact ⟨done _ _ ⟨by omega, by omega⟩⟩
  conv => whnf
  refine br2 (fun _ => ?_) (fun _ => ?_)
  · conv => whnf
    refine useBelow (c := c) (n := 3) rfl (by decide) fun c v a1 a2 _ => ?_
    conv => whnf
    exact ⟨done _ _ ⟨wrap_lo _, wrap_hi _⟩⟩
  conv => whnf
  refine br2 (fun _ => ?_) (fun _ => ?_)
  · conv => whnf
    refine useBelow (c := c) (n := 2) rfl (by decide) fun c v a1 a2 _ => ?_
    conv => whnf
    exact ⟨done _ _ ⟨wrap_lo _, wrap_hi _⟩⟩
  conv => whnf
  refine br2 (fun _ => ?_) (fun _ => ?_)
  · conv => whnf
    refine useBelow (c := c) (n := 2) rfl (by decide) fun c v a1 a2 _ => ?_
    conv => whnf
    exact ⟨done _ _ ⟨wrap_lo _, wrap_hi _⟩⟩
  conv => whnf
  refine br2 (fun _ => ?_) (fun _ => ?_)
  · conv => whnf
    refine useBelow (c := c) (n := 2) rfl (by decide) fun c v a1 a2 _ => ?_
    conv => whnf
    exact ⟨done _ _ ⟨wrap_lo _, wrap_hi _⟩⟩
  conv => whnf
  refine br2 (fun _ => ?_) (fun _ => ?_)
  · conv => whnf
    refine useBelow (c := c) (n := 8) rfl (by decide) fun c v a1 a2 _ => ?_
    replace a2 : v < 8 := a2 (by decide)
    conv => whnf
    refine ⟨a1, a2, ?_⟩
    conv => whnf
    refine exInt ?_ ?_ fun s hs1 hs2 => ?_
    · rfl
    · show v.toNat < 8; omega
    conv => whnf
    exact ⟨done _ _ ⟨hs1, hs2⟩⟩
  conv => whnf
  refine useBelow (c := c) (n := 65536) rfl (by decide) fun c v a1 a2 _ => ?_
  conv => whnf
  exact ⟨done _ _ ⟨wrap_lo _, wrap_hi _⟩⟩
theorem l01Raw_ok : FnOk Try.prog 126 (cDraw false intE intP) := fnOk_of fun x => fnX_at tab_ok (SOk.cons l01Below_ok SOk.nil) mixed (fn := Try.f126) (code := body Try.f126) ⟨Try.func126, rfl, by kernel_rfl, by kernel_rfl, by kernel_rfl, by kernel_rfl⟩ (ev_l01Raw x)
theorem ev_l02Key : ∀ x, evFnX tab [(125, cBelow), (78, cNumText)] (cDraw false strE (strP 16)) Try.f181 (body Try.f181) x := by
  intro c
  conv => whnf
  refine useBelow (c := c) (n := 20) rfl (by decide) fun c k k1 k2 _ => ?_
  replace k2 : k < 20 := k2 (by decide)
  conv => whnf
  refine br2 (fun h => ?_) (fun _ => ?_)
  · have h1 : k < 16 := of_decide_eq_true h
    conv => whnf
    refine ⟨k1, h1, ?_⟩
    conv => whnf
    refine exStr 16 ?_ ?_ fun s hs => ?_
    · rfl
    · show k.toNat < 16; omega
    conv => whnf
    exact ⟨⟨c, s, rfl, rfl, hs⟩⟩
  conv => whnf
  refine br2 (fun h => ?_) (fun _ => ?_)
  · conv => whnf
    exact ⟨⟨c, ⟨#[0]⟩, rfl, rfl, (show (1 : Nat) ≤ 16 by decide)⟩⟩
  conv => whnf
  refine br2 (fun h => ?_) (fun _ => ?_)
  · conv => whnf
    exact ⟨⟨c, ⟨#[122,122,122,122,122,122,122,122,122,122,122,122,122,122,122,122]⟩, rfl, rfl, (show (16 : Nat) ≤ 16 by decide)⟩⟩
  conv => whnf
  refine useBelow (c := c) (n := 30) rfl (by decide) fun c v a1 a2 _ => ?_
  replace a2 : v < 30 := a2 (by decide)
  conv => whnf
  refine ⟨⟨v, by omega, by omega⟩, rfl, ?_⟩
  rintro _ _ ⟨rfl, rfl⟩
  have hs := numT_size v
  conv => whnf
  refine ⟨(show 1 + (numT v).size ≤ 4294967296 by omega), ?_⟩
  conv => whnf
  refine ⟨⟨c, ⟨#[107]⟩ ++ numT v, rfl, rfl, ?_⟩⟩
  show (ByteArray.mk #[107] ++ numT v).size ≤ 16
  rw [ByteArray.size_append]
  show 1 + (numT v).size ≤ 16
  omega
theorem l02Key_ok : FnOk Try.prog 181 (cDraw false strE (strP 16)) := fnOk_of fun x => fnX_at tab_ok (SOk.cons l01Below_ok (SOk.cons sNumText_ok SOk.nil)) mixed (fn := Try.f181) (code := body Try.f181) ⟨Try.func181, rfl, by kernel_rfl, by kernel_rfl, by kernel_rfl, by kernel_rfl⟩ (ev_l02Key x)
def rngE (r : RngX) : List D := r.ds
def rngP (k : Nat) (r : RngX) : Prop := r.lo.size ≤ k ∧ r.hi.size ≤ k
theorem ev_sKeyOk : ∀ x, evFnX tab [] cKeyOk Try.f142 (body Try.f142) x := by
  intro k
  repeat' ((conv => whnf); refine br2 (fun h => ?_) (fun h => ?_))
  all_goals (conv => whnf)
  all_goals refine ⟨⟨rfl, ?_⟩⟩
  · show _ = [[D.lf (.bool (keyOkB k))]]
    have h1 := of_decide_eq_true h
    unfold keyOkB
    rw [show decide (1 ≤ k.size) = true from decide_eq_true (by omega), Bool.true_and]
    congr 4
    exact decide_eq_decide.2 (by omega)
  · show _ = [[D.lf (.bool (keyOkB k))]]
    have h1 := of_decide_eq_false h
    unfold keyOkB
    rw [show decide (1 ≤ k.size) = false from decide_eq_false (by omega), Bool.false_and]
theorem sKeyOk_ok : FnOk Try.prog 142 cKeyOk := fnOk_of fun x => fnX_at tab_ok (SOk.nil) mixed (fn := Try.f142) (code := body Try.f142) ⟨Try.func142, rfl, by kernel_rfl, by kernel_rfl, by kernel_rfl, by kernel_rfl⟩ (ev_sKeyOk x)
structure PtX where
  s : ByteArray
  h : s.size ≤ 1000
def cPoint : Con := relC PtX [(.rd, false)] [true] (fun x => [[.lf (.string x.s)]]) (fun x r => ∃ q : RngX, r = [q.ds] ∧ rngP (x.s.size + 1) q)
theorem ev_pointOf : ∀ x, evFnX tab [(142, cKeyOk)] cPoint Try.f217 (body Try.f217) x := by
  rintro ⟨s, h⟩
  conv => whnf
  refine ⟨s, rfl, ?_⟩
  rintro _ _ ⟨rfl, rfl⟩
  conv => whnf
  refine br2 (fun h => ?_) (fun _ => ?_)
  · conv => whnf
    exact ⟨⟨rfl, ⟨⟨#[]⟩, ⟨#[]⟩⟩, rfl, Nat.zero_le _, Nat.zero_le _⟩⟩
  conv => whnf
  refine ⟨(show s.size + 1 ≤ 4294967296 by omega), ?_⟩
  conv => whnf
  refine ⟨⟨rfl, ⟨s, s ++ ⟨#[0]⟩⟩, rfl, Nat.le_succ _, ?_⟩⟩
  show (s ++ ByteArray.mk #[0]).size ≤ s.size + 1
  rw [ByteArray.size_append]; exact Nat.le_refl _
theorem pointOf_ok : FnOk Try.prog 217 cPoint := fnOk_of fun x => fnX_at tab_ok (SOk.cons sKeyOk_ok SOk.nil) mixed (fn := Try.f217) (code := body Try.f217) ⟨Try.func217, rfl, by kernel_rfl, by kernel_rfl, by kernel_rfl, by kernel_rfl⟩ (ev_pointOf x)
theorem ev_l02Range : ∀ x, evFnX tab [(125, cBelow), (181, (cDraw false strE (strP 16))), (217, cPoint)] (cDraw true rngE (rngP 17)) Try.f182 (body Try.f182) x := by
  intro c
  conv => whnf
  refine useDraw (c := c) rfl fun c a ha => ?_
  replace ha : a.size ≤ 16 := ha
  conv => whnf
  refine useDraw (c := c) rfl fun c b hb => ?_
  replace hb : b.size ≤ 16 := hb
  conv => whnf
  refine useBelow (c := c) (n := 6) rfl (by decide) fun c v a1 a2 _ => ?_
  have h0 : (ByteArray.mk #[]).size ≤ 17 := by decide
  repeat' ((conv => whnf); first
    | refine br2 (fun _ => ?_) (fun _ => ?_)
    | exact ⟨⟨c, ⟨_, _⟩, rfl, rfl, h0, h0⟩⟩
    | exact ⟨⟨c, ⟨a, _⟩, rfl, rfl, Nat.le_succ_of_le ha, h0⟩⟩
    | exact ⟨⟨c, ⟨a, b⟩, rfl, rfl, Nat.le_succ_of_le ha, Nat.le_succ_of_le hb⟩⟩
    | exact ⟨⟨c, ⟨b, a⟩, rfl, rfl, Nat.le_succ_of_le hb, Nat.le_succ_of_le ha⟩⟩
    | (refine ⟨⟨a, by omega⟩, rfl, ?_⟩; rintro _ _ ⟨rfl, q, rfl, hq1, hq2⟩; (conv => whnf); exact ⟨⟨c, q, rfl, rfl, Nat.le_trans hq1 (Nat.succ_le_succ ha), Nat.le_trans hq2 (Nat.succ_le_succ ha)⟩⟩))
theorem l02Range_ok : FnOk Try.prog 182 (cDraw true rngE (rngP 17)) := fnOk_of fun x => fnX_at tab_ok (SOk.cons l01Below_ok (SOk.cons l02Key_ok (SOk.cons pointOf_ok SOk.nil))) mixed (fn := Try.f182) (code := body Try.f182) ⟨Try.func182, rfl, by kernel_rfl, by kernel_rfl, by kernel_rfl, by kernel_rfl⟩ (ev_l02Range x)
theorem ev_l08Reach : ∀ x, evFnX tab [(125, cBelow), (209, (cDraw false strE (strP 16))), (217, cPoint)] (cDraw true rngE (rngP 17)) Try.f229 (body Try.f229) x := by
  intro c
  conv => whnf
  refine useDraw (c := c) rfl fun c a ha => ?_
  replace ha : a.size ≤ 16 := ha
  conv => whnf
  refine useDraw (c := c) rfl fun c b hb => ?_
  replace hb : b.size ≤ 16 := hb
  have h0 : (ByteArray.mk #[]).size ≤ 17 := by decide
  conv => whnf
  refine br2 (fun _ => ?_) (fun _ => ?_)
  · conv => whnf
    refine ⟨⟨a, by omega⟩, rfl, ?_⟩
    rintro _ _ ⟨rfl, q, rfl, hq1, hq2⟩
    conv => whnf
    exact ⟨⟨c, q, rfl, rfl, Nat.le_trans hq1 (Nat.succ_le_succ ha), Nat.le_trans hq2 (Nat.succ_le_succ ha)⟩⟩
  conv => whnf
  refine useBelow (c := c) (n := 4) rfl (by decide) fun c v a1 a2 _ => ?_
  conv => whnf
  refine br2 (fun _ => ?_) (fun _ => ?_)
  · conv => whnf
    exact ⟨⟨c, ⟨a, _⟩, rfl, rfl, Nat.le_succ_of_le ha, h0⟩⟩
  conv => whnf
  exact ⟨⟨c, ⟨a, b⟩, rfl, rfl, Nat.le_succ_of_le ha, Nat.le_succ_of_le hb⟩⟩
theorem l08Reach_ok : FnOk Try.prog 229 (cDraw true rngE (rngP 17)) := fnOk_of fun x => fnX_at tab_ok (SOk.cons l01Below_ok (SOk.cons l08User_ok (SOk.cons pointOf_ok SOk.nil))) mixed (fn := Try.f229) (code := body Try.f229) ⟨Try.func229, rfl, by kernel_rfl, by kernel_rfl, by kernel_rfl, by kernel_rfl⟩ (ev_l08Reach x)
theorem ev_l02AnyRange : ∀ x, evFnX tab [(125, cBelow), (182, (cDraw true rngE (rngP 17)))] (cDraw true rngE (rngP 20)) Try.f124 (body Try.f124) x := by
  intro c
  conv => whnf
  refine useDraw (c := c) rfl fun c q hq => ?_
  obtain ⟨lo, hi⟩ := q
  obtain ⟨q1, q2⟩ : lo.size ≤ 17 ∧ hi.size ≤ 17 := hq
  have u1 : lo.size ≤ 20 := by omega
  have u2 : hi.size ≤ 20 := by omega
  conv => whnf
  refine useBelow (c := c) (n := 14) rfl (by decide) fun c k k1 k2 k3 => ?_
  clear k1 k2 k3
  have fin : ∀ (c : CurX) (lo hi : ByteArray), lo.size ≤ 20 → hi.size ≤ 20 → ∃ (c' : CurX) (a : RngX), [[c.d]] = [[c'.d]] ∧ [[D.lf (.string lo), D.lf (.string hi)]] = [rngE a] ∧ rngP 20 a := fun c lo hi h1 h2 => ⟨c, ⟨lo, hi⟩, rfl, rfl, h1, h2⟩
  have g1 : (k == 0) = true → k = 0 := fun h => eq_of_beq h
  have g2 : (k == 1) = true → k = 1 := fun h => eq_of_beq h
  have g3 : (k == 2) = true → k = 2 := fun h => eq_of_beq h
  have g4 : (k == 3) = true → k = 3 := fun h => eq_of_beq h
  have one : ∀ (c : CurX) (v : Int), 0 ≤ v → v < 2 → 0 ≤ IntKind.i64.wrap (17 + v) ∧ IntKind.i64.wrap (17 + v) ≤ 18 := fun c v h1 h2 => by rw [w64 (by omega) (by omega)]; omega
  conv => whnf
  refine br2 (fun h0 => ?_) (fun h0 => ?_)
  · obtain rfl := g1 h0
    conv => whnf
    exact ⟨fin _ _ _ (by first | exact u1 | exact u2) (by first | exact u1 | exact u2)⟩
  conv => whnf
  refine br2 (fun h0 => ?_) (fun h0 => ?_)
  · obtain rfl := g2 h0
    conv => whnf
    refine useBelow (c := c) (n := 2) rfl (by decide) fun c v a1 a2 _ => ?_
    replace a2 : v < 2 := a2 (by decide)
    obtain ⟨o1, o2⟩ := one c v a1 a2
    conv => whnf
    refine ⟨o1, rfl, Int.le_trans o2 (by decide), ?_⟩
    conv => whnf
    refine ⟨UInt8, encB, 0, fun _ => rfl, rfl, ?_⟩
    conv => whnf
    refine ⟨List.replicate (IntKind.i64.wrap (17 + v)).toNat 0, rfl, ?_⟩
    conv => whnf
    refine ⟨fin _ _ _ ?_ u2⟩
    show (List.replicate (IntKind.i64.wrap (17 + v)).toNat (0 : UInt8)).toArray.size ≤ 20
    simp; omega
  conv => whnf
  refine br2 (fun h0 => ?_) (fun h0 => ?_)
  · obtain rfl := g3 h0
    conv => whnf
    refine useBelow (c := c) (n := 2) rfl (by decide) fun c v a1 a2 _ => ?_
    replace a2 : v < 2 := a2 (by decide)
    conv => whnf
    refine ⟨a1, a2, ?_⟩
    conv => whnf
    refine exStr 1 ?_ ?_ fun s hs => ?_
    · rfl
    · show v.toNat < 2; omega
    conv => whnf
    refine ⟨(show 17 + s.size ≤ 4294967296 by omega), ?_⟩
    conv => whnf
    refine ⟨fin _ _ _ u1 ?_⟩
    rw [ByteArray.size_append]
    show 17 + s.size ≤ 20
    omega
  conv => whnf
  refine br2 (fun h0 => ?_) (fun h0 => ?_)
  · conv => whnf
    exact ⟨fin _ _ _ (by first | exact u1 | exact u2) (by first | exact u1 | exact u2)⟩
  conv => whnf
  exact ⟨fin _ _ _ (by first | exact u1 | exact u2) (by first | exact u1 | exact u2)⟩
theorem l02AnyRange_ok : FnOk Try.prog 124 (cDraw true rngE (rngP 20)) := fnOk_of fun x => fnX_at tab_ok (SOk.cons l01Below_ok (SOk.cons l02Range_ok SOk.nil)) mixed (fn := Try.f124) (code := body Try.f124) ⟨Try.func124, rfl, by kernel_rfl, by kernel_rfl, by kernel_rfl, by kernel_rfl⟩ (ev_l02AnyRange x)
end Go.Vm
namespace Go.Vm
open Go.Proofs
set_option maxRecDepth 100000
set_option linter.unusedVariables false
set_option linter.unusedSimpArgs false

/-! A sub: a leaf's pairs or a branch's kids, told n levels deep -/
def subE : Nat → Tw → List D
  | 0, _ => [.dead, .dead, .dead]
  | n + 1, .mk ps ks => [.lf (.bool ks.isEmpty), .row 2 RngX.ds ps, .row 3 (subE n) ks]
theorem subE_len (n : Nat) (x : Tw) : (subE n x).length = 3 := by cases n <;> cases x <;> rfl
theorem ev_sValOk : ∀ x, evFnX tab [] (cS1 valOkB) Try.f143 (body Try.f143) x := by
  intro s
  conv => whnf
  refine ⟨⟨rfl, ?_⟩⟩
  show _ = [[D.lf (.bool (valOkB s))]]
  unfold valOkB
  congr 4
  exact decide_eq_decide.2 (by omega)
theorem sValOk_ok : FnOk Try.prog 143 (cS1 valOkB) := fnOk_of fun x => fnX_at tab_ok (SOk.nil) mixed (fn := Try.f143) (code := body Try.f143) ⟨Try.func143, rfl, by kernel_rfl, by kernel_rfl, by kernel_rfl, by kernel_rfl⟩ (ev_sValOk x)
theorem ev_sPairsOk : ∀ x, evFnX tab [(142, cKeyOk), (143, (cS1 valOkB))] cPairsOk Try.f60 (body Try.f60) x := by
  intro (l : List RngX)
  conv => whnf
  intro hl
  replace hl : l.length ≤ 9223372036854775807 := hl
  conv => whnf
  refine br2 (fun h1 => ?_) (fun h1 => ?_)
  · have h1' : 200 < l.length := by
      replace h1 : decide ((l.length : Int) > 200) = true := h1
      have := of_decide_eq_true h1; omega
    conv => whnf
    exact ⟨⟨rfl, false, rfl, fun h => (by cases h), fun h => absurd h.len (by omega)⟩⟩
  have h1' : l.length ≤ 200 := by
    replace h1 : decide ((l.length : Int) > 200) = false := h1
    have := of_decide_eq_false h1; omega
  have fin : ∀ {b : Bool}, (b = true ↔ (∀ p ∈ l, kvOkB p = true) ∧ Srt l) → (b = true ↔ PairsOkP l) := fun h =>
    h.trans ⟨fun h => ⟨h1', h.1, h.2⟩, fun h => ⟨h.ok, h.srt⟩⟩
  conv => whnf
  intro _
  conv => whnf
  let S0 : Nat → Sl := fun i => [(10, .lf (.int .i64 i)), (9, .lf (.int .i64 l.length)), (8, .sl 0 none), (0, .sl 0 none)]
  let H0 : Hp := [(0, some (.row .lent 2 RngX.ds l))]
  refine ⟨fun m s h => ∃ i : Nat, i ≤ l.length ∧ RiseTo l i ∧ m = l.length - i ∧ s = S0 i ∧ h = H0, l.length, [(0, 0)], S0 0, H0, ⟨rfl, ⟨rfl, rfl, rfl, rfl, trivial⟩, rfl, trivial⟩, ⟨0, by omega, fun j y h => by omega, by omega, rfl, rfl⟩, ?_⟩
  rintro m _ _ ⟨i, g1, g2, rfl, rfl, rfl⟩
  conv => whnf
  refine br2 (fun h5 => ?_) (fun h5 => ?_)
  · have hi : i < l.length := by have := of_decide_eq_true h5; omega
    obtain ⟨y, hy⟩ := getL hi
    have no : ¬ (kvOkB y = true ∧ ∀ z, 0 < i → l[i - 1]? = some z → strLt z.lo y.lo = true) → (false = true ↔ (∀ p ∈ l, kvOkB p = true) ∧ Srt l) := fun h =>
      ⟨fun e => (by cases e), fun e => absurd (riseTo_all.2 e i y hi hy) h⟩
    have yes : (kvOkB y = true ∧ ∀ z, 0 < i → l[i - 1]? = some z → strLt z.lo y.lo = true) → RiseTo l (i + 1) := fun h j z hj hz => by
      rcases Nat.lt_or_ge j i with h1 | h1
      · exact g2 j z h1 hz
      · obtain rfl : j = i := by omega
        rw [hy] at hz; cases hz; exact h
    have kv : kvOkB y = (keyOkB y.lo && valOkB y.hi) := rfl
    have hw1 : 0 < i → IntKind.i64.wrap ((i : Int) - 1) = ((i - 1 : Nat) : Int) := fun h => by rw [w64 (by omega) (by omega)]; omega
    have back : ∀ {s' : Sl} {h' : Hp}, RiseTo l (i + 1) → Le [(0, 0)] (S0 (i + 1)) H0 s' h' → ∃ m' ρ s'' h'', m' < l.length - i ∧ Le ρ s'' h'' s' h' ∧ ∃ i, i ≤ l.length ∧ RiseTo l i ∧ m' = l.length - i ∧ s'' = S0 i ∧ h'' = H0 := fun h hle =>
      ⟨l.length - (i + 1), [(0, 0)], S0 (i + 1), H0, by omega, hle, i + 1, by omega, h, rfl, rfl, rfl⟩
    conv => whnf
    refine ⟨Int.natCast_nonneg _, ltI hy, ?_⟩
    conv => whnf
    refine ex2 _ (nthI hy) ?_
    conv => whnf
    refine ⟨y.lo, rfl, ?_⟩
    rintro _ _ ⟨rfl, rfl⟩
    conv => whnf
    repeat ((first | refine rc_i rfl ?_ | refine rc_i (fun _ => rfl) ?_); conv => whnf)
    refine br2 (fun h6 => ?_) (fun h6 => ?_)
    · have h6' : keyOkB y.lo = false := by
        replace h6 : (!keyOkB y.lo) = true := h6
        simpa using h6
      conv => whnf
      repeat ((first | refine rc_i rfl ?_ | refine rc_i (fun _ => rfl) ?_); conv => whnf)
      exact ⟨⟨rfl, false, rfl, fin (no fun h => by rw [kv, h6'] at h; cases h.1)⟩⟩
    have h6' : keyOkB y.lo = true := by
      replace h6 : (!keyOkB y.lo) = false := h6
      simpa using h6
    conv => whnf
    refine ⟨y.hi, rfl, ?_⟩
    rintro _ _ ⟨rfl, rfl⟩
    conv => whnf
    repeat ((first | refine rc_i rfl ?_ | refine rc_i (fun _ => rfl) ?_); conv => whnf)
    refine br2 (fun h7 => ?_) (fun h7 => ?_)
    · have h7' : valOkB y.hi = false := by
        replace h7 : (!valOkB y.hi) = true := h7
        simpa using h7
      conv => whnf
      repeat ((first | refine rc_i rfl ?_ | refine rc_i (fun _ => rfl) ?_); conv => whnf)
      exact ⟨⟨rfl, false, rfl, fin (no fun h => by rw [kv, h6', h7'] at h; cases h.1)⟩⟩
    have h7' : kvOkB y = true := by
      replace h7 : (!valOkB y.hi) = false := h7
      rw [kv, h6']; simpa using h7
    conv => whnf
    repeat ((first | refine rc_i rfl ?_ | refine rc_i (fun _ => rfl) ?_); conv => whnf)
    refine br2 (fun h8 => ?_) (fun h8 => ?_)
    · have h8' : 0 < i := by have := of_decide_eq_true h8; omega
      obtain ⟨z, hz⟩ := getL (l := l) (j := i - 1) (by omega)
      conv => whnf
      refine ⟨(ixE (hw1 h8') hz).1, (ixE (hw1 h8') hz).2, ?_⟩
      conv => whnf
      refine ex2 _ (nthE (hw1 h8') hz) ?_
      conv => whnf
      repeat (refine rc_i (by (conv => whnf); first | rfl | exact ⟨(ixE (hw1 h8') hz).1, (ixE (hw1 h8') hz).2, rfl⟩ | exact ex2 _ (nthE (hw1 h8') hz) rfl) ?_; conv => whnf)
      refine br2 (fun h9 => ?_) (fun h9 => ?_)
      · have h9' : strLt z.lo y.lo = false := by
          replace h9 : (!strLt z.lo y.lo) = true := h9
          simpa using h9
        conv => whnf
        exact ⟨⟨rfl, false, rfl, fin (no fun h => by rw [h.2 z h8' hz] at h9'; cases h9')⟩⟩
      · have h9' : strLt z.lo y.lo = true := by
          replace h9 : (!strLt z.lo y.lo) = false := h9
          simpa using h9
        conv => whnf
        exact back (yes ⟨h7', fun z' _ hz' => by rw [hz] at hz'; cases hz'; exact h9'⟩) ⟨rfl, ⟨incI hi hl, rfl, rfl, rfl, trivial⟩, rfl, trivial⟩
    · have h8' : ¬ 0 < i := by have := of_decide_eq_false h8; omega
      conv => whnf
      exact back (yes ⟨h7', fun z' h0 _ => absurd h0 h8'⟩) ⟨rfl, ⟨incI hi hl, rfl, rfl, rfl, trivial⟩, rfl, trivial⟩
  · have hi : i = l.length := by have := of_decide_eq_false h5; omega
    subst hi
    conv => whnf
    exact ⟨⟨rfl, true, rfl, fin ⟨fun _ => riseTo_all.1 g2, fun _ => rfl⟩⟩⟩
theorem sPairsOk_ok : FnOk Try.prog 60 cPairsOk := fnOk_of fun x => fnX_at tab_ok (SOk.cons sKeyOk_ok (SOk.cons sValOk_ok SOk.nil)) mixed (fn := Try.f60) (code := body Try.f60) ⟨Try.func60, rfl, by kernel_rfl, by kernel_rfl, by kernel_rfl, by kernel_rfl⟩ (ev_sPairsOk x)
theorem ev_sLeast : ∀ n x, (fun t => t.d) x = n → evFnX tab [(189, (pureC TwX [(.rd, true)] [false] (fun t => [subE t.n t.x]) (fun t => [[.lf (.string t.x.least)]])).below (fun t => t.d) n)] (pureC TwX [(.rd, true)] [false] (fun t => [subE t.n t.x]) (fun t => [[.lf (.string t.x.least)]])) Try.f189 (body Try.f189) x := by
  rintro N ⟨n, ⟨ps, ks⟩, b, d, h, hn⟩ rfl
  have hpos := h.pos
  obtain ⟨n, rfl⟩ : ∃ m, n = m + 1 := ⟨n - 1, by omega⟩
  cases h with
  | leaf h1 h2 =>
    obtain ⟨y, hy⟩ : ∃ y, ps[0]? = some y := getL (by cases b <;> simp at h1 <;> omega)
    conv => whnf
    intro _
    conv => whnf
    refine br2 (fun h3 => ?_) (fun h3 => ?_)
    · conv => whnf
      refine ⟨by decide, ltI hy, ?_⟩
      conv => whnf
      refine ex2 _ (nthI hy) ?_
      conv => whnf
      refine ⟨⟨rfl, ?_⟩⟩
      show [[D.lf (.string y.lo)]] = [[D.lf (.string (headKey ps))]]
      cases ps with
      | nil => simp at hy
      | cons c cs => cases hy; rfl
    · exfalso
      have h3' := of_decide_eq_false h3
      have := (List.getElem?_eq_some_iff.1 hy).1
      omega
  | node h1 h2 h3 =>
    obtain ⟨k, ks, rfl⟩ : ∃ k r, ks = k :: r := by cases ks with | nil => simp at h1 | cons k r => exact ⟨k, r, rfl⟩
    rename_i d
    have hks := h3 k (by simp)
    have hp := hks.pos
    obtain ⟨n, rfl⟩ : ∃ m, n = m + 1 := ⟨n - 1, by omega⟩
    obtain ⟨us, is⟩ := k
    conv => whnf
    intro _
    conv => whnf
    refine br2 (fun h4 => ?_) (fun h4 => ?_)
    · conv => whnf
      refine ⟨by decide, (show (0 : Int) < (((Tw.mk us is :: ks).length : Nat) : Int) by simp), ?_⟩
      conv => whnf
      refine ⟨⟨⟨n + 1, .mk us is, false, d, hks, by omega⟩, Nat.lt_succ_self _⟩, rfl, ?_⟩
      rintro _ _ ⟨rfl, rfl⟩
      conv => whnf
      exact ⟨⟨rfl, rfl⟩⟩
    · exfalso
      have h4' := of_decide_eq_false h4
      replace h4' : ¬ (((Tw.mk us is :: ks).length : Nat) : Int) > 0 := h4'
      simp at h4'
theorem sLeast_ok : FnOk Try.prog 189 (pureC TwX [(.rd, true)] [false] (fun t => [subE t.n t.x]) (fun t => [[.lf (.string t.x.least)]])) := fn_rec (fun t => t.d) fun n hs x hx => fnX_at tab_ok (SOk.cons hs (SOk.nil)) mixed (fn := Try.f189) (code := body Try.f189) ⟨Try.func189, rfl, by kernel_rfl, by kernel_rfl, by kernel_rfl, by kernel_rfl⟩ (ev_sLeast n x hx)
end Go.Vm
namespace Go.Vm
open Go.Proofs
set_option maxRecDepth 100000
set_option linter.unusedVariables false
set_option linter.unusedSimpArgs false

structure LayX where
  t : TwX
  N : List NodeX
  hl : N.length + t.x.size ≤ 4194304
def cSLay : Con := pureC LayX [(.take, false), (.rd, true)] [false] (fun a => [[.row 3 NodeX.ds a.N], subE a.t.n a.t.x]) (fun a => [[.row 3 NodeX.ds (a.N ++ a.t.x.lay a.N.length)]])
theorem Tw.lays_take {ks : List Tw} {i a : Nat} {k : Tw} (h : ks[i]? = some k) : Tw.lays (ks.take (i + 1)) a = Tw.lays (ks.take i) a ++ k.lay (a + Tw.sizes (ks.take i)) := by
  rw [List.take_add_one, h, Tw.lays_app]; simp [Tw.lays]
theorem kidsAt_take {ks : List Tw} {i a : Nat} {k : Tw} (h : ks[i]? = some k) : kidsAt (ks.take (i + 1)) a = kidsAt (ks.take i) a ++ [((a + Tw.sizes (ks.take i) : Nat) : Int)] := by
  rw [List.take_add_one, h, kidsAt_app]; rfl
theorem Tw.sizes_take {ks : List Tw} {i : Nat} {k : Tw} (h : ks[i]? = some k) : Tw.sizes (ks.take (i + 1)) = Tw.sizes (ks.take i) + k.size ∧ Tw.sizes (ks.take i) + k.size ≤ Tw.sizes ks := by
  constructor
  · rw [List.take_add_one, h, Tw.sizes_app]; simp [Tw.sizes]
  · conv => rhs; rw [at_split h]
    rw [Tw.sizes_app]; simp [Tw.sizes]
theorem leasts_take {ks : List Tw} {i : Nat} {k : Tw} (h : ks[i]? = some k) (hi : 0 < i) : ((ks.take (i + 1)).drop 1).map Tw.least = ((ks.take i).drop 1).map Tw.least ++ [k.least] := by
  rw [List.take_add_one, h, List.drop_append_of_le_length (by rw [List.length_take]; have := (List.getElem?_eq_some_iff.1 h).1; omega), List.map_append]; rfl
theorem leasts_take0 {ks : List Tw} : ((ks.take (0 + 1)).drop 1).map Tw.least = [] := by cases ks <;> simp
theorem ev_sLay : ∀ n x, (fun a => a.t.d) x = n → evFnX tab [(137, cSLay.below (fun a => a.t.d) n), (1000007, cGh), (189, (pureC TwX [(.rd, true)] [false] (fun t => [subE t.n t.x]) (fun t => [[.lf (.string t.x.least)]])))] cSLay Try.f137 (body Try.f137) x := by
  rintro M ⟨⟨n, x, b, d, h, hn⟩, N, hl⟩ rfl
  have hpos := h.pos
  obtain ⟨n, rfl⟩ : ∃ m, n = m + 1 := ⟨n - 1, by omega⟩
  obtain ⟨ps, ks⟩ := x
  replace hl : N.length + (1 + Tw.sizes ks) ≤ 4194304 := hl
  replace hn : d ≤ n + 1 := hn
  have hps : ps.length ≤ 4 := by cases h <;> simp_all
  have hk4 : ks.length ≤ 4 := by cases h <;> simp_all
  have hkid : ∀ k ∈ ks, ∃ d', d' < d ∧ Shp false d' k := by
    intro k hk
    cases h with
    | leaf => simp at hk
    | node k1 k2 k3 => exact ⟨_, Nat.lt_succ_self _, k3 k hk⟩
  conv => whnf
  intro _
  conv => whnf
  refine ⟨2, RngX, RngX.ds, fun _ => rfl, ?_⟩
  conv => whnf
  refine ⟨1, ByteArray, strE1, fun _ => rfl, ?_⟩
  conv => whnf
  refine ⟨1, Int, intE1, fun _ => rfl, ?_⟩
  conv => whnf
  refine ⟨[⟨[], [], []⟩], rfl, ?_, ?_⟩
  · show N.length + 1 ≤ 4294967296; omega
  conv => whnf
  refine br2 (fun h3 => ?_) (fun h3 => ?_)
  · obtain rfl : ks = [] := by cases ks with | nil => rfl | cons k r => cases h3
    conv => whnf
    refine ⟨true, ?_⟩
    conv => whnf
    refine ⟨RngX, RngX.ds, [], fun _ => rfl, rfl, ?_⟩
    conv => whnf
    refine ⟨fun _ => rfl, ps, rfl, ?_, ?_⟩
    · show 0 + ps.length ≤ 4294967296; omega
    conv => whnf
    have hy : (N ++ [(⟨[], [], []⟩ : NodeX)])[N.length]? = some ⟨[], [], []⟩ := by simp
    refine ⟨Int.natCast_nonneg _, ltI hy, ?_⟩
    conv => whnf
    refine ex2 _ (nthI hy) ?_
    conv => whnf
    refine ⟨⟨ps, [], []⟩, rfl, ?_⟩
    conv => whnf
    refine ⟨⟨rfl, ?_⟩⟩
    show [[D.row 3 NodeX.ds ((N ++ [(⟨[], [], []⟩ : NodeX)]).set N.length ⟨ps, [], []⟩)]] = [[D.row 3 NodeX.ds (N ++ (Tw.mk ps []).lay N.length)]]
    simp [Tw.lay, Tw.lays, kidsAt]
  cases h with
  | leaf => exact absurd h3 (by simp)
  | node k1 k2 k3 =>
  rename_i d
  conv => whnf
  refine ⟨[.nlc 96 0 1 1000, .nlc 96 0 2 1001], ?_⟩
  conv => whnf
  refine ⟨1, ByteArray, strE1, fun _ => rfl, ?_⟩
  conv => whnf
  refine ⟨1, Int, intE1, fun _ => rfl, ?_⟩
  conv => whnf
  intro _
  conv => whnf
  let S0 : Nat → Sl := fun i => [(29, .lf (.int .i64 i)), (28, .lf (.int .i64 ks.length)), (27, .sl 17 none), (6, .pt 96 0 0), (3, .pt 48 0 0), (5, .lf (.int .i64 N.length)), (0, .sl 208 none)]
  let L : Nat → List NodeX := fun i => N ++ [⟨[], [], []⟩] ++ Tw.lays (ks.take i) (N.length + 1)
  let H0 : Nat → Hp := fun i => [(208, some (.row .own 3 NodeX.ds (L i))), (96, some (.arr true 3 [[.lf (.slice none 0 0), .sl 16000 none, .sl 16016 none]])),
    (16000, some (.row .own 1 strE1 (((ks.take i).drop 1).map Tw.least))), (16016, some (.row .own 1 intE1 (kidsAt (ks.take i) (N.length + 1)))),
    (48, some (.arr true 3 [[.lf (.bool ks.isEmpty), .sl 16 none, .sl 17 none]])), (16, some (.row .lent 2 RngX.ds [])), (17, some (.row .lent 3 (subE n) ks))]
  have hL : ∀ i, (L i).length = N.length + 1 + Tw.sizes (ks.take i) := fun i => by simp [L, Tw.lays_len]; omega
  refine ⟨fun m s h => ∃ i : Nat, i ≤ ks.length ∧ m = ks.length - i ∧ s = S0 i ∧ h = H0 i, ks.length, [(208, 208), (96, 96), (16000, 16000), (16016, 16016), (48, 48), (16, 16), (17, 17)], S0 0, H0 0,
    ⟨rfl, ⟨rfl, rfl, rfl, rfl, rfl, rfl, rfl, trivial⟩, ?_, rfl, rfl, rfl, rfl, rfl, rfl, trivial⟩, ⟨0, by omega, rfl, rfl, rfl⟩, ?_⟩
  · show _ = some (Ob.row Kind.own 3 NodeX.ds (L 0))
    simp [L, Tw.lays]; rfl
  rintro m _ _ ⟨i, g1, rfl, rfl, rfl⟩
  conv => whnf
  refine br2 (fun h5 => ?_) (fun h5 => ?_)
  · have hi : i < ks.length := by have := of_decide_eq_true h5; omega
    obtain ⟨k, hk⟩ := getL hi
    obtain ⟨d', hd, hks⟩ := hkid k (List.mem_of_getElem? hk)
    have hp := hks.pos
    obtain ⟨z1, z2⟩ := Tw.sizes_take hk
    have hL1 : L (i + 1) = L i ++ k.lay (L i).length := by
      rw [hL]; simp only [L, Tw.lays_take hk, List.append_assoc]
    have hK1 : kidsAt (ks.take (i + 1)) (N.length + 1) = kidsAt (ks.take i) (N.length + 1) ++ [((L i).length : Int)] := by rw [kidsAt_take hk, hL]
    have hlen := hL i
    obtain ⟨us, is⟩ := k
    obtain ⟨n', rfl⟩ : ∃ q, n = q + 1 := ⟨n - 1, by omega⟩
    conv => whnf
    intro _
    conv => whnf
    refine ⟨[((L i).length : Int)], rfl, ?_, ?_⟩
    · show (kidsAt (ks.take i) (N.length + 1)).length + 1 ≤ 4294967296
      rw [kidsAt_len, List.length_take]; omega
    conv => whnf
    have step : ∀ {s' : Sl} {h' : Hp} (ρ : List (Nat × Nat)), Le ρ (S0 (i + 1)) (H0 (i + 1)) s' h' → ∃ m' ρ s'' h'', m' < ks.length - i ∧ Le ρ s'' h'' s' h' ∧ ∃ i, i ≤ ks.length ∧ m' = ks.length - i ∧ s'' = S0 i ∧ h'' = H0 i := fun ρ hle =>
      ⟨ks.length - (i + 1), ρ, _, _, by omega, hle, i + 1, by omega, rfl, rfl, rfl⟩
    have hw := incI hi (show ks.length ≤ 9223372036854775807 by omega)
    refine br2 (fun h6 => ?_) (fun h6 => ?_)
    · have h6' : 0 < i := by have := of_decide_eq_true h6; omega
      conv => whnf
      refine ⟨Int.natCast_nonneg _, ltI hk, ?_⟩
      conv => whnf
      refine ex2 _ (nthI hk) ?_
      conv => whnf
      refine ⟨⟨n' + 1, .mk us is, false, d', hks, by omega⟩, rfl, ?_⟩
      rintro _ _ ⟨rfl, rfl⟩
      conv => whnf
      repeat ((first | refine rc_i rfl ?_ | refine rc_i (fun _ => rfl) ?_); conv => whnf)
      refine ⟨[(Tw.mk us is).least], rfl, ?_, ?_⟩
      · show (((ks.take i).drop 1).map Tw.least).length + 1 ≤ 4294967296
        simp; omega
      conv => whnf
      refine ⟨Int.natCast_nonneg _, ltI hk, ?_⟩
      conv => whnf
      refine ex2 _ (nthI hk) ?_
      conv => whnf
      refine ⟨⟨⟨⟨n' + 1, .mk us is, false, d', hks, by omega⟩, L i, (show (L i).length + (Tw.mk us is).size ≤ 4194304 by omega)⟩, hd⟩, rfl, ?_⟩
      rintro _ _ ⟨rfl, rfl⟩
      conv => whnf
      refine step [(928, 208), (96, 96), (800, 16000), (592, 16016), (48, 48), (16, 16), (17, 17)] ⟨rfl, ⟨hw, rfl, rfl, rfl, rfl, rfl, rfl, trivial⟩, ?_, rfl, ?_, ?_, rfl, rfl, rfl, trivial⟩
      · show _ = some (Ob.row Kind.own 3 NodeX.ds (L (i + 1)))
        rw [hL1]; rfl
      · show _ = some (Ob.row Kind.own 1 strE1 (((ks.take (i + 1)).drop 1).map Tw.least))
        rw [leasts_take hk h6']; rfl
      · show _ = some (Ob.row Kind.own 1 intE1 (kidsAt (ks.take (i + 1)) (N.length + 1)))
        rw [hK1]; rfl
    · have h6' : i = 0 := by have := of_decide_eq_false h6; omega
      subst h6'
      conv => whnf
      refine ⟨Int.natCast_nonneg _, ltI hk, ?_⟩
      conv => whnf
      refine ex2 _ (nthI hk) ?_
      conv => whnf
      refine ⟨⟨⟨⟨n' + 1, .mk us is, false, d', hks, by omega⟩, L 0, (show (L 0).length + (Tw.mk us is).size ≤ 4194304 by omega)⟩, hd⟩, rfl, ?_⟩
      rintro _ _ ⟨rfl, rfl⟩
      conv => whnf
      refine step [(928, 208), (96, 96), (16000, 16000), (592, 16016), (48, 48), (16, 16), (17, 17)] ⟨rfl, ⟨hw, rfl, rfl, rfl, rfl, rfl, rfl, trivial⟩, ?_, rfl, ?_, ?_, rfl, rfl, rfl, trivial⟩
      · show _ = some (Ob.row Kind.own 3 NodeX.ds (L (0 + 1)))
        rw [hL1]; rfl
      · show _ = some (Ob.row Kind.own 1 strE1 (((ks.take (0 + 1)).drop 1).map Tw.least))
        rw [leasts_take0]; rfl
      · show _ = some (Ob.row Kind.own 1 intE1 (kidsAt (ks.take (0 + 1)) (N.length + 1)))
        rw [hK1]; rfl
  · have hi : i = ks.length := by have := of_decide_eq_false h5; omega
    subst hi
    have hy : (L ks.length)[N.length]? = some ⟨[], [], []⟩ := by simp [L]
    conv => whnf
    refine ⟨Int.natCast_nonneg _, ltI hy, ?_⟩
    conv => whnf
    refine ex2 _ (nthI hy) ?_
    conv => whnf
    refine ⟨2, RngX, RngX.ds, fun _ => rfl, ?_⟩
    conv => whnf
    refine ⟨⟨[], (ks.drop 1).map Tw.least, kidsAt ks (N.length + 1)⟩, ?_, ?_⟩
    · show [D.row 2 RngX.ds [], .row 1 strE1 ((ks.drop 1).map Tw.least), .row 1 intE1 (kidsAt ks (N.length + 1))] = [D.row 2 RngX.ds [], .row 1 strE1 (((ks.take ks.length).drop 1).map Tw.least), .row 1 intE1 (kidsAt (ks.take ks.length) (N.length + 1))]
      rw [List.take_length]
    conv => whnf
    refine ⟨⟨rfl, ?_⟩⟩
    show [[D.row 3 NodeX.ds ((L ks.length).set N.length ⟨[], (ks.drop 1).map Tw.least, kidsAt ks (N.length + 1)⟩)]] = [[D.row 3 NodeX.ds (N ++ (Tw.mk [] ks).lay N.length)]]
    simp [L, Tw.lay]
theorem sLay_ok : FnOk Try.prog 137 cSLay := fn_rec (fun a => a.t.d) fun n hs x hx => fnX_at tab_ok (SOk.cons hs (SOk.cons gh_ok (SOk.cons sLeast_ok SOk.nil))) mixed (fn := Try.f137) (code := body Try.f137) ⟨Try.func137, rfl, by kernel_rfl, by kernel_rfl, by kernel_rfl, by kernel_rfl⟩ (ev_sLay n x hx)
theorem deeps_mem {k : Tw} : ∀ {ks : List Tw}, k ∈ ks → k.deep ≤ Tw.deeps ks
  | j :: ks, h => by
    simp only [Tw.deeps]
    rcases List.mem_cons.1 h with rfl | h
    · omega
    · have := deeps_mem h; omega
structure PrsS where
  n : Nat
  x : Tw
  h : x = .mk [] [] ∨ ∃ b d, Shp b d x
  hn : x.deep ≤ n
  hl : x.all.length ≤ 4294967296
theorem ev_sPairs : ∀ n x, (fun a => a.x.deep) x = n → evFnX tab [(132, (pureC PrsS [(.rd, true)] [false] (fun p => [subE p.n p.x]) (fun p => [[.row 2 RngX.ds p.x.all]])).below (fun a => a.x.deep) n)] (pureC PrsS [(.rd, true)] [false] (fun p => [subE p.n p.x]) (fun p => [[.row 2 RngX.ds p.x.all]])) Try.f132 (body Try.f132) x := by
  rintro N ⟨n, x, h, hn, hl⟩ rfl
  have hpos := x.deep_pos
  obtain ⟨n, rfl⟩ : ∃ m, n = m + 1 := ⟨n - 1, by omega⟩
  obtain ⟨ps, ks⟩ := x
  replace hl : (Tw.alls ks ++ ps).length ≤ 4294967296 := hl
  rw [List.length_append] at hl
  replace hn : 1 + Tw.deeps ks ≤ n + 1 := hn
  have hk4 : ks.length ≤ 4 := by
    rcases h with h | ⟨b, d, h⟩
    · cases h; simp
    · cases h <;> simp_all
  have hps : ps.length ≤ 4 := by
    rcases h with h | ⟨b, d, h⟩
    · cases h; simp
    · cases h <;> simp_all
  have hkid : ∀ k ∈ ks, ∃ d', Shp false d' k := by
    intro k hk
    rcases h with h | ⟨b, d, h⟩
    · cases h; simp at hk
    cases h with
    | leaf => simp at hk
    | node k1 k2 k3 => exact ⟨_, k3 k hk⟩
  have hord : Tw.alls ks ++ ps = ps ++ Tw.alls ks := by
    rcases h with h | ⟨b, d, h⟩
    · cases h; rfl
    cases h with
    | leaf => simp [Tw.alls]
    | node => simp
  conv => whnf
  refine ⟨true, ?_⟩
  conv => whnf
  refine ⟨RngX, RngX.ds, [], fun _ => rfl, rfl, ?_⟩
  conv => whnf
  refine ⟨fun _ => rfl, ps, rfl, ?_, ?_⟩
  · show 0 + ps.length ≤ 4294967296; omega
  conv => whnf
  intro _
  conv => whnf
  let S0 : Nat → Sl := fun i => [(12, .lf (.int .i64 i)), (11, .lf (.int .i64 ks.length)), (1, .pt 16 0 0), (3, .sl 128 none)]
  let H0 : Nat → Hp := fun i => [(128, some (.row .own 2 RngX.ds (ps ++ Tw.alls (ks.take i)))), (16, some (.arr true 3 [[.lf (.bool ks.isEmpty), .sl 0 none, .sl 1 none]])), (0, some (.row .lent 2 RngX.ds ps)), (1, some (.row .lent 3 (subE n) ks))]
  refine ⟨fun m s h => ∃ i : Nat, i ≤ ks.length ∧ m = ks.length - i ∧ s = S0 i ∧ h = H0 i, ks.length, [(128, 128), (16, 16), (0, 0), (1, 1)], S0 0, H0 0,
    ⟨rfl, ⟨rfl, rfl, rfl, rfl, trivial⟩, ?_, rfl, rfl, rfl, trivial⟩, ⟨0, by omega, rfl, rfl, rfl⟩, ?_⟩
  · show _ = some (Ob.row Kind.own 2 RngX.ds (ps ++ Tw.alls (ks.take 0)))
    simp [Tw.alls]; rfl
  rintro m _ _ ⟨i, g1, rfl, rfl, rfl⟩
  conv => whnf
  refine br2 (fun h5 => ?_) (fun h5 => ?_)
  · have hi : i < ks.length := by have := of_decide_eq_true h5; omega
    obtain ⟨k, hk⟩ := getL hi
    obtain ⟨d', hks⟩ := hkid k (List.mem_of_getElem? hk)
    have hkd := deeps_mem (List.mem_of_getElem? hk)
    obtain ⟨us, is⟩ := k
    have hp := (Tw.mk us is).deep_pos
    obtain ⟨n', rfl⟩ : ∃ q, n = q + 1 := ⟨n - 1, by omega⟩
    have hal := Tw.alls_le hk
    conv => whnf
    refine ⟨Int.natCast_nonneg _, ltI hk, ?_⟩
    conv => whnf
    refine ex2 _ (nthI hk) ?_
    conv => whnf
    refine ⟨⟨⟨n' + 1, .mk us is, .inr ⟨_, _, hks⟩, by omega, by show (Tw.mk us is).all.length ≤ 4294967296; omega⟩, (show (Tw.mk us is).deep < 1 + Tw.deeps ks by omega)⟩, rfl, ?_⟩
    rintro _ _ ⟨rfl, rfl⟩
    conv => whnf
    refine ⟨fun _ => rfl, (Tw.mk us is).all, rfl, ?_, ?_⟩
    · show (ps ++ Tw.alls (ks.take i)).length + (Tw.mk us is).all.length ≤ 4294967296
      rw [List.length_append]; omega
    conv => whnf
    refine ⟨ks.length - (i + 1), [(352, 128), (16, 16), (0, 0), (1, 1)], S0 (i + 1), H0 (i + 1), by omega, ⟨rfl, ⟨incI hi (by omega), rfl, rfl, rfl, trivial⟩, ?_, rfl, rfl, rfl, trivial⟩, i + 1, by omega, rfl, rfl, rfl⟩
    show _ = some (Ob.row Kind.own 2 RngX.ds (ps ++ Tw.alls (ks.take (i + 1))))
    rw [Tw.alls_take hk, ← List.append_assoc]; rfl
  · have hi : i = ks.length := by have := of_decide_eq_false h5; omega
    subst hi
    conv => whnf
    refine ⟨⟨rfl, ?_⟩⟩
    show [[D.row 2 RngX.ds (ps ++ Tw.alls (ks.take ks.length))]] = [[D.row 2 RngX.ds (Tw.alls ks ++ ps)]]
    rw [List.take_length, hord]
theorem sPairs_ok : FnOk Try.prog 132 (pureC PrsS [(.rd, true)] [false] (fun p => [subE p.n p.x]) (fun p => [[.row 2 RngX.ds p.x.all]])) := fn_rec (fun a => a.x.deep) fun n hs x hx => fnX_at tab_ok (SOk.cons hs (SOk.nil)) mixed (fn := Try.f132) (code := body Try.f132) ⟨Try.func132, rfl, by kernel_rfl, by kernel_rfl, by kernel_rfl, by kernel_rfl⟩ (ev_sPairs n x hx)
end Go.Vm
namespace Go.Vm
open Go.Proofs
set_option maxRecDepth 100000
set_option linter.unusedVariables false
set_option linter.unusedSimpArgs false

theorem Lev.deep : ∀ {d : Nat} {x : Tw}, Lev d x → x.deep = d := by
  intro d x h
  induction h with
  | leaf => simp [Tw.deep, Tw.deeps]
  | node h1 h3 ih =>
    rename_i d ps ks
    have key : ∀ l : List Tw, l ≠ [] → (∀ k ∈ l, k.deep = d) → Tw.deeps l = d := by
      intro l
      induction l with
      | nil => intro h; exact absurd rfl h
      | cons k l ihl =>
        intro _ hk
        have h4 := hk k (by simp)
        simp only [Tw.deeps]
        cases l with
        | nil => simp [Tw.deeps, h4]
        | cons q r =>
          have := ihl (by simp) (fun z hz => hk z (by simp [hz]))
          rw [this, h4]; simp
    simp only [Tw.deep]
    rw [key ks h1 ih]; omega
structure SubX where
  n : Nat
  x : Tw
  hd : x.deep ≤ n
  hn : n ≤ 1000
def cSDeep : Con := relC SubX [(.rd, true)] [false] (fun t => [subE t.n t.x]) (fun t r => ∃ v : Int, r = [[.lf (.int .i64 v)]] ∧ v ≤ t.x.deep ∧ (0 ≤ v → Lev t.x.deep t.x ∧ v = t.x.deep) ∧ (v < 0 → ∀ d, ¬ Lev d t.x))
theorem mk_deep {ps : List RngX} {ks : List Tw} : (Tw.mk ps ks).deep = 1 + Tw.deeps ks := rfl
theorem ev_sDeep : ∀ n x, (fun t => t.x.deep) x = n → evFnX tab [(136, cSDeep.below (fun t => t.x.deep) n)] cSDeep Try.f136 (body Try.f136) x := by
  rintro M ⟨n, ⟨ps, ks⟩, hd, hn⟩ rfl
  replace hd : 1 + Tw.deeps ks ≤ n := hd
  obtain ⟨n, rfl⟩ : ∃ m, n = m + 1 := ⟨n - 1, by omega⟩
  conv => whnf
  refine br2 (fun h1 => ?_) (fun h1 => ?_)
  · obtain rfl : ks = [] := by cases ks with | nil => rfl | cons k r => cases h1
    conv => whnf
    exact ⟨⟨rfl, 1, rfl, by show (1 : Int) ≤ ((1 + 0 : Nat) : Int); omega, fun _ => ⟨.leaf, rfl⟩, fun h => by omega⟩⟩
  have hne : ks ≠ [] := by rintro rfl; cases h1
  have hlen : 0 < ks.length := List.length_pos_iff.2 hne
  conv => whnf
  intro hkl
  replace hkl : ks.length ≤ 9223372036854775807 := hkl
  conv => whnf
  let S0 : Nat → Nat → Sl := fun i dd => [(11, .lf (.int .i64 i)), (10, .lf (.int .i64 ks.length)), (1, .pt 16 0 0), (3, .lf (.int .i64 dd))]
  let H0 : Hp := [(16, some (.arr true 3 [[.lf (.bool ks.isEmpty), .sl 0 none, .sl 1 none]])), (0, some (.row .lent 2 RngX.ds ps)), (1, some (.row .lent 3 (subE n) ks))]
  refine ⟨fun m s h => ∃ i dd : Nat, i ≤ ks.length ∧ dd ≤ 1000 ∧ (i = 0 → dd = 0) ∧ (0 < i → ∃ e, dd = e + 1 ∧ ∀ k ∈ ks.take i, Lev e k) ∧ m = ks.length - i ∧ s = S0 i dd ∧ h = H0, ks.length, [(16, 16), (0, 0), (1, 1)], S0 0 0, H0,
    ⟨rfl, ⟨rfl, rfl, rfl, rfl, trivial⟩, rfl, rfl, rfl, trivial⟩, ⟨0, 0, by omega, by omega, fun _ => rfl, fun h => absurd h (by omega), rfl, rfl, rfl⟩, ?_⟩
  rintro m _ _ ⟨i, dd, g1, g2, g3, g4, rfl, rfl, rfl⟩
  conv => whnf
  refine br2 (fun h5 => ?_) (fun h5 => ?_)
  · have hi : i < ks.length := by have := of_decide_eq_true h5; omega
    obtain ⟨k, hk⟩ := getL hi
    have hkm := List.mem_of_getElem? hk
    have hkd := deeps_mem hkm
    have hkp := k.deep_pos
    have no : (∀ e, Lev e k → 0 < i → ∀ q ∈ ks.take i, Lev e q → False) → (0 < i ∨ ∀ e, ¬ Lev e k) → ∀ d, ¬ Lev d (.mk ps ks) := by
      intro a b d hl
      cases hl with
      | leaf => exact hne rfl
      | node q1 q3 =>
        rcases b with b | b
        · obtain ⟨q, hq⟩ := getL (l := ks) (j := 0) hlen
          have : q ∈ ks.take i := by
            have : (ks.take i)[0]? = some q := by rw [List.getElem?_take, if_pos b]; exact hq
            exact List.mem_of_getElem? this
          exact a _ (q3 k hkm) b q this (q3 q (List.mem_of_getElem? hq))
        · exact b _ (q3 k hkm)
    obtain ⟨us, is⟩ := k
    replace hkd : (Tw.mk us is).deep ≤ n := by omega
    obtain ⟨n', rfl⟩ : ∃ q, n = q + 1 := ⟨n - 1, by omega⟩
    conv => whnf
    refine ⟨Int.natCast_nonneg _, ltI hk, ?_⟩
    conv => whnf
    refine ex2 _ (nthI hk) ?_
    conv => whnf
    refine ⟨⟨⟨n' + 1, .mk us is, hkd, by omega⟩, by show (Tw.mk us is).deep < 1 + Tw.deeps ks; have := deeps_mem hkm; omega⟩, rfl, ?_⟩
    rintro _ _ ⟨rfl, v, rfl, v1, v2, v3⟩
    replace v1 : v ≤ ((Tw.mk us is).deep : Int) := v1
    replace v2 : 0 ≤ v → Lev (Tw.mk us is).deep (Tw.mk us is) ∧ v = (Tw.mk us is).deep := v2
    replace v3 : v < 0 → ∀ d, ¬ Lev d (Tw.mk us is) := v3
    have bad : ∀ {d : Nat}, (∀ e, ¬ Lev e (Tw.mk ps ks)) → ∃ w : Int, [[D.lf (.int .i64 (-1))]] = [[D.lf (.int .i64 w)]] ∧ w ≤ ((Tw.mk ps ks).deep : Int) ∧ (0 ≤ w → Lev (Tw.mk ps ks).deep (Tw.mk ps ks) ∧ w = ((Tw.mk ps ks).deep : Int)) ∧ (w < 0 → ∀ d, ¬ Lev d (Tw.mk ps ks)) := fun h =>
      ⟨-1, rfl, by omega, fun h => by omega, fun _ => h⟩
    conv => whnf
    refine br2 (fun h6 => ?_) (fun h6 => ?_)
    · have h6' : v < 0 := of_decide_eq_true h6
      conv => whnf
      exact ⟨⟨rfl, bad (d := 0) (no (fun e h => absurd h (v3 h6' e)) (.inr (v3 h6')))⟩⟩
    have h6' : 0 ≤ v := by have h7 : ¬ v < 0 := of_decide_eq_false h6; omega
    obtain ⟨hlv, rfl⟩ := v2 h6'
    have hwd : IntKind.i64.wrap (((Tw.mk us is).deep : Int) + 1) = (((Tw.mk us is).deep + 1 : Nat) : Int) := by rw [w64 (by omega) (by omega)]; omega
    have step : ∀ {s' : Sl} {h' : Hp}, (∀ q ∈ ks.take i, Lev (Tw.mk us is).deep q) → Le [(16, 16), (0, 0), (1, 1)] (S0 (i + 1) ((Tw.mk us is).deep + 1)) H0 s' h' →
        ∃ m' ρ s'' h'', m' < ks.length - i ∧ Le ρ s'' h'' s' h' ∧ ∃ i dd : Nat, i ≤ ks.length ∧ dd ≤ 1000 ∧ (i = 0 → dd = 0) ∧ (0 < i → ∃ e, dd = e + 1 ∧ ∀ k ∈ ks.take i, Lev e k) ∧ m' = ks.length - i ∧ s'' = S0 i dd ∧ h'' = H0 := fun h hle =>
      ⟨ks.length - (i + 1), _, _, _, by omega, hle, i + 1, (Tw.mk us is).deep + 1, by omega, by omega, fun h => by omega, fun _ => ⟨_, rfl, fun q hq => by
        rw [List.take_add_one, hk] at hq
        rcases List.mem_append.1 hq with hq | hq
        · exact h q hq
        · simp at hq; subst hq; exact hlv⟩, rfl, rfl, rfl⟩
    have hw := incI hi hkl
    have hl1 : Le [(16, 16), (0, 0), (1, 1)] (S0 (i + 1) ((Tw.mk us is).deep + 1)) H0 (S0 (i + 1) ((Tw.mk us is).deep + 1)) H0 := ⟨rfl, ⟨rfl, rfl, rfl, rfl, trivial⟩, rfl, rfl, rfl, trivial⟩
    conv => whnf
    refine br2 (fun h7 => ?_) (fun h7 => ?_)
    · have h7' : 0 < i := by have := of_decide_eq_true h7; omega
      obtain ⟨e, rfl, g4'⟩ := g4 h7'
      conv => whnf
      refine br2 (fun h8 => ?_) (fun h8 => ?_)
      · have h8' : (Tw.mk us is).deep ≠ e := by
          replace h8 : (IntKind.i64.wrap (((Tw.mk us is).deep : Int) + 1) != ((e + 1 : Nat) : Int)) = true := h8
          rw [hwd] at h8
          simp at h8; omega
        conv => whnf
        refine ⟨⟨rfl, bad (d := 0) (no (fun e' h1 _ q hq h2 => ?_) (.inl h7'))⟩⟩
        have a1 := h1.deep
        have a2 := (g4' q hq).deep
        have a3 := h2.deep
        omega
      · have h8' : (Tw.mk us is).deep = e := by
          replace h8 : (IntKind.i64.wrap (((Tw.mk us is).deep : Int) + 1) != ((e + 1 : Nat) : Int)) = false := h8
          rw [hwd] at h8
          simp at h8; omega
        conv => whnf
        refine step (by rw [h8']; exact g4') ⟨rfl, ⟨hw, rfl, rfl, ?_, trivial⟩, rfl, rfl, rfl, trivial⟩
        show V.lf (.int .i64 (IntKind.i64.wrap (((Tw.mk us is).deep : Int) + 1))) = _
        rw [hwd]
    · have h7' : i = 0 := by have := of_decide_eq_false h7; omega
      subst h7'
      conv => whnf
      refine step (fun q hq => by simp at hq) ⟨rfl, ⟨hw, rfl, rfl, ?_, trivial⟩, rfl, rfl, rfl, trivial⟩
      show V.lf (.int .i64 (IntKind.i64.wrap (((Tw.mk us is).deep : Int) + 1))) = _
      rw [hwd]
  · have hi : i = ks.length := by have := of_decide_eq_false h5; omega
    subst hi
    obtain ⟨e, rfl, g5⟩ := g4 hlen
    rw [List.take_length] at g5
    have hL : Lev (e + 1) (.mk ps ks) := .node hne g5
    have hdp := hL.deep
    conv => whnf
    refine ⟨⟨rfl, _, rfl, ?_, fun _ => ⟨?_, ?_⟩, fun h => ?_⟩⟩
    · show ((e + 1 : Nat) : Int) ≤ ((Tw.mk ps ks).deep : Int); rw [hdp]; omega
    · show Lev (Tw.mk ps ks).deep (Tw.mk ps ks); rw [hdp]; exact hL
    · show ((e + 1 : Nat) : Int) = ((Tw.mk ps ks).deep : Int); rw [hdp]
    · omega
theorem sDeep_ok : FnOk Try.prog 136 cSDeep := fn_rec (fun t => t.x.deep) fun n hs x hx => fnX_at tab_ok (SOk.cons hs (SOk.nil)) mixed (fn := Try.f136) (code := body Try.f136) ⟨Try.func136, rfl, by kernel_rfl, by kernel_rfl, by kernel_rfl, by kernel_rfl⟩ (ev_sDeep n x hx)
structure FullX where
  t : SubX
  root : Bool
theorem ev_sFull : ∀ n x, (fun f => f.t.x.deep) x = n → evFnX tab [(135, (pureC FullX [(.rd, true), (.rd, false)] [false] (fun f => [subE f.t.n f.t.x, [.lf (.bool f.root)]]) (fun f => [[.lf (.bool (Tw.full f.root f.t.x))]])).below (fun f => f.t.x.deep) n)] (pureC FullX [(.rd, true), (.rd, false)] [false] (fun f => [subE f.t.n f.t.x, [.lf (.bool f.root)]]) (fun f => [[.lf (.bool (Tw.full f.root f.t.x))]])) Try.f135 (body Try.f135) x := by
  rintro M ⟨⟨n, ⟨ps, ks⟩, hd, hn⟩, root⟩ rfl
  replace hd : 1 + Tw.deeps ks ≤ n := hd
  obtain ⟨n, rfl⟩ : ∃ m, n = m + 1 := ⟨n - 1, by omega⟩
  conv => whnf
  refine br2 (fun h1 => ?_) (fun h1 => ?_)
  · obtain rfl : ks = [] := by cases ks with | nil => rfl | cons k r => cases h1
    have fin : ∀ b : Bool, b = (decide (ps.length ≤ 4) && (decide (2 ≤ ps.length) || root && decide (ps.length = 1))) → [[D.lf (.bool b)]] = [[D.lf (.bool (Tw.full root (.mk ps [])))]] := fun b h => by rw [full_leaf, h]
    conv => whnf
    intro _
    conv => whnf
    refine br2 (fun h2 => ?_) (fun h2 => ?_)
    · have h2' : ps.length ≤ 4 := by
        replace h2 : decide ((ps.length : Int) ≤ 4) = true := h2
        have := of_decide_eq_true h2; omega
      conv => whnf
      intro _
      conv => whnf
      refine br2 (fun h3 => ?_) (fun h3 => ?_)
      · have h3' : 2 ≤ ps.length := by
          replace h3 : decide ((ps.length : Int) ≥ 2) = true := h3
          have := of_decide_eq_true h3; omega
        conv => whnf
        refine ⟨⟨rfl, fin _ ?_⟩⟩
        simp [h2', h3']
      · have h3' : ¬ 2 ≤ ps.length := by
          replace h3 : decide ((ps.length : Int) ≥ 2) = false := h3
          have := of_decide_eq_false h3; omega
        cases root with
        | true =>
          conv => whnf
          intro _
          conv => whnf
          refine ⟨⟨rfl, fin _ ?_⟩⟩
          show ((ps.length : Int) == 1) = _
          simp [h2', h3']
          rw [Bool.eq_iff_iff]; simp; omega
        | false =>
          conv => whnf
          refine ⟨⟨rfl, fin _ ?_⟩⟩
          simp [h2', h3']
    · have h2' : ¬ ps.length ≤ 4 := by
        replace h2 : decide ((ps.length : Int) ≤ 4) = false := h2
        have := of_decide_eq_false h2; omega
      conv => whnf
      refine ⟨⟨rfl, fin _ ?_⟩⟩
      simp [h2']
  have hne : ks ≠ [] := by rintro rfl; cases h1
  have hlen : 0 < ks.length := List.length_pos_iff.2 hne
  have fin : ∀ b : Bool, b = (decide (2 ≤ ks.length) && decide (ks.length ≤ 4) && decide (ps.length = 0) && Tw.fulls ks) → [[D.lf (.bool b)]] = [[D.lf (.bool (Tw.full root (.mk ps ks)))]] := fun b h => by rw [full_node hne, h]
  conv => whnf
  intro hkl
  replace hkl : ks.length ≤ 9223372036854775807 := hkl
  conv => whnf
  refine br2 (fun h2 => ?_) (fun h2 => ?_)
  · have h2' : ¬ 2 ≤ ks.length := by
      replace h2 : decide ((ks.length : Int) < 2) = true := h2
      have := of_decide_eq_true h2; omega
    conv => whnf
    refine ⟨⟨rfl, fin _ ?_⟩⟩
    simp [h2']
  have h2' : 2 ≤ ks.length := by
    replace h2 : decide ((ks.length : Int) < 2) = false := h2
    have := of_decide_eq_false h2; omega
  conv => whnf
  intro _
  conv => whnf
  refine br2 (fun h3 => ?_) (fun h3 => ?_)
  · have h3' : ¬ ks.length ≤ 4 := by
      replace h3 : decide ((ks.length : Int) > 4) = true := h3
      have := of_decide_eq_true h3; omega
    conv => whnf
    refine ⟨⟨rfl, fin _ ?_⟩⟩
    simp [h3']
  have h3' : ks.length ≤ 4 := by
    replace h3 : decide ((ks.length : Int) > 4) = false := h3
    have := of_decide_eq_false h3; omega
  conv => whnf
  intro _
  conv => whnf
  refine br2 (fun h4 => ?_) (fun h4 => ?_)
  · have h4' : ¬ ps.length = 0 := by
      replace h4 : decide ((ps.length : Int) > 0) = true := h4
      have := of_decide_eq_true h4; omega
    conv => whnf
    refine ⟨⟨rfl, fin _ ?_⟩⟩
    simp only [h4', decide_false, Bool.and_false, Bool.false_and]
  have h4' : ps.length = 0 := by
    replace h4 : decide ((ps.length : Int) > 0) = false := h4
    have := of_decide_eq_false h4; omega
  have fin2 : ∀ b : Bool, b = Tw.fulls ks → [[D.lf (.bool b)]] = [[D.lf (.bool (Tw.full root (.mk ps ks)))]] := fun b h => fin b (by simp [h2', h3', h4', h])
  conv => whnf
  intro _
  conv => whnf
  let S0 : Nat → Sl := fun i => [(46, .lf (.int .i64 i)), (45, .lf (.int .i64 ks.length)), (2, .pt 32 0 0)]
  let H0 : Hp := [(32, some (.arr true 3 [[.lf (.bool ks.isEmpty), .sl 0 none, .sl 1 none]])), (0, some (.row .lent 2 RngX.ds ps)), (1, some (.row .lent 3 (subE n) ks))]
  refine ⟨fun m s h => ∃ i : Nat, i ≤ ks.length ∧ (∀ k ∈ ks.take i, Tw.full false k = true) ∧ m = ks.length - i ∧ s = S0 i ∧ h = H0, ks.length, [(32, 32), (0, 0), (1, 1)], S0 0, H0,
    ⟨rfl, ⟨rfl, rfl, rfl, trivial⟩, rfl, rfl, rfl, trivial⟩, ⟨0, by omega, fun k h => by simp at h, rfl, rfl, rfl⟩, ?_⟩
  rintro m _ _ ⟨i, g1, g2, rfl, rfl, rfl⟩
  conv => whnf
  refine br2 (fun h5 => ?_) (fun h5 => ?_)
  · have hi : i < ks.length := by have := of_decide_eq_true h5; omega
    obtain ⟨k, hk⟩ := getL hi
    have hkm := List.mem_of_getElem? hk
    have hkd := deeps_mem hkm
    have hkp := k.deep_pos
    obtain ⟨us, is⟩ := k
    replace hkd : (Tw.mk us is).deep ≤ n := by omega
    obtain ⟨n', rfl⟩ : ∃ q, n = q + 1 := ⟨n - 1, by omega⟩
    conv => whnf
    refine ⟨Int.natCast_nonneg _, ltI hk, ?_⟩
    conv => whnf
    refine ex2 _ (nthI hk) ?_
    conv => whnf
    refine ⟨⟨⟨⟨n' + 1, .mk us is, hkd, by omega⟩, false⟩, by show (Tw.mk us is).deep < 1 + Tw.deeps ks; have := deeps_mem hkm; omega⟩, rfl, ?_⟩
    rintro _ _ ⟨rfl, rfl⟩
    conv => whnf
    refine br2 (fun h6 => ?_) (fun h6 => ?_)
    · have h6' : Tw.full false (.mk us is) = false := by
        replace h6 : (!Tw.full false (.mk us is)) = true := h6
        simpa using h6
      conv => whnf
      refine ⟨⟨rfl, fin2 _ ?_⟩⟩
      cases e : Tw.fulls ks with
      | false => rfl
      | true => rw [fulls_iff.1 e _ hkm] at h6'; cases h6'
    · have h6' : Tw.full false (.mk us is) = true := by
        replace h6 : (!Tw.full false (.mk us is)) = false := h6
        simpa using h6
      conv => whnf
      refine ⟨ks.length - (i + 1), [(32, 32), (0, 0), (1, 1)], S0 (i + 1), H0, by omega, ⟨rfl, ⟨incI hi hkl, rfl, rfl, trivial⟩, rfl, rfl, rfl, trivial⟩, i + 1, by omega, fun q hq => ?_, rfl, rfl, rfl⟩
      rw [List.take_add_one, hk] at hq
      rcases List.mem_append.1 hq with hq | hq
      · exact g2 q hq
      · simp at hq; subst hq; exact h6'
  · have hi : i = ks.length := by have := of_decide_eq_false h5; omega
    subst hi
    rw [List.take_length] at g2
    conv => whnf
    exact ⟨⟨rfl, fin2 _ (fulls_iff.2 g2).symm⟩⟩
theorem sFull_ok : FnOk Try.prog 135 (pureC FullX [(.rd, true), (.rd, false)] [false] (fun f => [subE f.t.n f.t.x, [.lf (.bool f.root)]]) (fun f => [[.lf (.bool (Tw.full f.root f.t.x))]])) := fn_rec (fun f => f.t.x.deep) fun n hs x hx => fnX_at tab_ok (SOk.cons hs (SOk.nil)) mixed (fn := Try.f135) (code := body Try.f135) ⟨Try.func135, rfl, by kernel_rfl, by kernel_rfl, by kernel_rfl, by kernel_rfl⟩ (ev_sFull n x hx)
theorem Tw.len_sizes : ∀ l : List Tw, l.length ≤ Tw.sizes l
  | [] => Nat.le_refl _
  | k :: l => by simp only [Tw.sizes, List.length_cons]; have := Tw.len_sizes l; have := k.size_pos; omega
/-! Reading -/
structure ReadX where
  N : List NodeX
  at_ : Nat
  b : Nat
  deep : Int
  hN : N.length ≤ 1048576
  hp : ∀ n ∈ N, n.ps.length ≤ 1048576
  hb : deep + b = 13
  h0 : 0 ≤ deep
def optS (b : Nat) : Option Tw → List D
  | none => [.lf (.bool false), .row 2 RngX.ds [], .row 3 (subE 0) []]
  | some x => subE b x
structure ReadR (N : List NodeX) (a b : Nat) (o : Option Tw) (next : Int) (ok : Bool) : Prop where
  yes : ok = true → ∃ x, o = some x ∧ Fit false N a x ∧ x.deep ≤ b ∧ next = ((a + x.size : Nat) : Int)
  no : ok = false → o = none ∧ ∀ x, Fit false N a x → ¬ x.deep ≤ b
def cSRead : Con := relC ReadX [(.rd, true), (.rd, false), (.rd, false)] [true, false, false] (fun g => [[.row 3 NodeX.ds g.N], [.lf (.int .i64 g.at_)], [.lf (.int .i64 g.deep)]])
  (fun g r => ∃ o next ok, r = [optS g.b o, [.lf (.int .i64 next)], [.lf (.bool ok)]] ∧ ReadR g.N g.at_ g.b o next ok)
structure SubsTo (N : List NodeX) (a b : Nat) (n : NodeX) (l : List Tw) : Prop where
  fit : FitK false N (a + 1) l
  kids : n.kids.take l.length = kidsAt l (a + 1)
  deep : ∀ k ∈ l, k.deep ≤ b
theorem SubsTo.snoc {N : List NodeX} {a b : Nat} {n : NodeX} {l : List Tw} {k : Tw} (h : SubsTo N a b n l) (hk : n.kids[l.length]? = some (((a + 1 + Tw.sizes l : Nat)) : Int)) (hf : Fit false N (a + 1 + Tw.sizes l) k) (hd : k.deep ≤ b) : SubsTo N a b n (l ++ [k]) := by
  refine ⟨fitK_app.2 ⟨h.fit, fitK_one.2 hf⟩, ?_, fun q hq => ?_⟩
  · rw [List.length_append, List.length_singleton, List.take_add_one, h.kids, hk, kidsAt_app]; rfl
  · rcases List.mem_append.1 hq with hq | hq
    · exact h.deep q hq
    · simp at hq; subst hq; exact hd
theorem SubsTo.next {N : List NodeX} {a b : Nat} {n : NodeX} {l : List Tw} (h : SubsTo N a b n l) (hn : N[a]? = some n) (hl : l.length < n.kids.length) {x : Tw} (hf : Fit false N a x) (hd : x.deep ≤ b + 1) :
    ∃ k, n.kids[l.length]? = some ((a + 1 + Tw.sizes l : Nat) : Int) ∧ Fit false N (a + 1 + Tw.sizes l) k ∧ k.deep ≤ b := by
  obtain ⟨ps, ks⟩ := x
  simp only [Fit] at hf
  obtain ⟨⟨n', e1, e2, e3, e4⟩, h2⟩ := hf
  rw [hn] at e1; cases e1
  have hlen : n.kids.length = ks.length := by rw [e3, kidsAt_len]
  have hfr := h.fit.front h2 (by omega)
  obtain ⟨k, hk⟩ := getL (l := ks) (j := l.length) (by omega)
  have hkf := h2.get hk
  rw [← hfr] at hkf
  have := deeps_mem (List.mem_of_getElem? hk)
  rw [mk_deep] at hd
  exact ⟨k, by rw [e3, kidsAt_get _ _ _ (by omega), ← hfr], hkf, by omega⟩
theorem ev_sRead : ∀ n x, (fun g => g.b) x = n → evFnX tab [(185, cSRead.below (fun g => g.b) n), (1000006, cGh)] cSRead Try.f185 (body Try.f185) x := by
  rintro M ⟨N, a, b, deep, hN, hp, hb, h00⟩ rfl
  replace hN : N.length ≤ 1048576 := hN
  replace hp : ∀ n ∈ N, n.ps.length ≤ 1048576 := hp
  replace hb : deep + b = 13 := hb
  replace h00 : 0 ≤ deep := h00
  have zero : ∀ {P : Prop}, ReadR N a b none 0 false → P → P := fun _ h => h
  conv => whnf
  intro _
  conv => whnf
  have none0 : ∀ {P : Prop}, P → P := fun h => h
  refine br2 (fun h1 => ?_) (fun h1 => ?_)
  · have h1' : N.length ≤ a := by
      replace h1 : decide ((a : Int) ≥ (N.length : Int)) = true := h1
      have := of_decide_eq_true h1; omega
    conv => whnf
    refine ⟨2, RngX, RngX.ds, fun _ => rfl, ?_⟩
    conv => whnf
    refine ⟨3, Tw, subE 0, subE_len 0, ?_⟩
    conv => whnf
    refine ⟨⟨rfl, none, _, _, rfl, fun h => (by cases h), fun _ => ⟨rfl, fun x hf _ => ?_⟩⟩⟩
    have h3 : a + x.size ≤ N.length := hf.le
    have := x.size_pos
    omega
  have h1' : a < N.length := by
    replace h1 : decide ((a : Int) ≥ (N.length : Int)) = false := h1
    have := of_decide_eq_false h1; omega
  conv => whnf
  refine br2 (fun h2 => ?_) (fun h2 => ?_)
  · have h2' : 12 < deep := of_decide_eq_true h2
    conv => whnf
    refine ⟨2, RngX, RngX.ds, fun _ => rfl, ?_⟩
    conv => whnf
    refine ⟨3, Tw, subE 0, subE_len 0, ?_⟩
    conv => whnf
    refine ⟨⟨rfl, none, _, _, rfl, fun h => (by cases h), fun _ => ⟨rfl, fun x _ hd => ?_⟩⟩⟩
    have := x.deep_pos
    replace hd : x.deep ≤ b := hd
    omega
  have h2' : deep ≤ 12 := by
    have h3 : ¬ deep > 12 := of_decide_eq_false h2
    omega
  obtain ⟨b, rfl⟩ : ∃ q, b = q + 1 := ⟨b - 1, by omega⟩
  obtain ⟨⟨ps, keys, kids⟩, hn⟩ := getL h1'
  have hps : ps.length ≤ 1048576 := hp _ (List.mem_of_getElem? hn)
  conv => whnf
  refine ⟨Int.natCast_nonneg _, ltI hn, ?_⟩
  conv => whnf
  refine ex2 _ (nthI hn) ?_
  conv => whnf
  intro hkl
  replace hkl : kids.length ≤ 9223372036854775807 := hkl
  conv => whnf
  repeat ((first | refine rc_i rfl ?_ | refine rc_i (fun _ => rfl) ?_); conv => whnf)
  refine ⟨true, ?_⟩
  conv => whnf
  refine ⟨RngX, RngX.ds, [], fun _ => rfl, rfl, ?_⟩
  conv => whnf
  refine ⟨fun _ => rfl, ps, rfl, ?_, ?_⟩
  · show 0 + ps.length ≤ 4294967296; omega
  conv => whnf
  repeat ((first | refine rc_i rfl ?_ | refine rc_i (fun _ => rfl) ?_); conv => whnf)
  refine ⟨[.nlc 160 0 2 1000], ?_⟩
  conv => whnf
  refine ⟨3, Tw, subE b, subE_len b, ?_⟩
  conv => whnf
  intro _
  conv => whnf
  have hw : IntKind.i64.wrap ((a : Int) + 1) = ((a + 1 : Nat) : Int) := by rw [w64 (by omega) (by omega)]; omega
  have hwd : IntKind.i64.wrap (deep + 1) = deep + 1 := w64 (by omega) (by omega)
  let S0 : Nat → Nat → Sl := fun i nx => [(50, .lf (.int .i64 i)), (49, .lf (.int .i64 kids.length)), (48, .sl 562 none), (11, .lf (.int .i64 nx)), (10, .pt 160 0 0), (3, .pt 48 0 0), (6, .pt 96 0 0), (2, .lf (.int .i64 deep))]
  let H0 : List Tw → Hp := fun l => [(562, some (.row .lent 1 intE1 kids)), (160, some (.arr true 3 [[.lf (.bool ((kids.length : Int) == 0)), .sl 688 none, .sl 16000 none]])), (688, some (.row .own 2 RngX.ds ps)), (16000, some (.row .own 3 (subE b) l)),
    (48, some (.arr true 1 [[.sl 0 none]])), (0, some (.row .lent 3 NodeX.ds N)), (96, some (.arr true 3 [[.lf (.bool false), .lf (.slice none 0 0), .lf (.slice none 0 0)]]))]
  refine ⟨fun m s h => ∃ l : List Tw, l.length ≤ kids.length ∧ SubsTo N a b ⟨ps, keys, kids⟩ l ∧ m = kids.length - l.length ∧ s = S0 l.length (a + 1 + Tw.sizes l) ∧ h = H0 l, kids.length, [(562, 562), (160, 160), (688, 688), (16000, 16000), (48, 48), (0, 0), (96, 96)], S0 0 (a + 1), H0 [],
    ⟨rfl, ⟨rfl, rfl, rfl, ?_, rfl, rfl, rfl, rfl, trivial⟩, rfl, rfl, rfl, rfl, rfl, rfl, rfl, trivial⟩, ⟨[], Nat.zero_le _, ⟨trivial, rfl, fun k h => by simp at h⟩, rfl, rfl, rfl⟩, ?_⟩
  · show V.lf (.int .i64 (IntKind.i64.wrap ((a : Int) + 1))) = _
    rw [hw]
  rintro m _ _ ⟨l, g1, hK, rfl, rfl, rfl⟩
  conv => whnf
  refine br2 (fun h6 => ?_) (fun h6 => ?_)
  · have hi : l.length < kids.length := by have := of_decide_eq_true h6; omega
    obtain ⟨c, hc⟩ := getL hi
    have hfit : a + 1 + Tw.sizes l ≤ N.length := FitK.le l (a + 1) hK.fit (by omega)
    have fail : (∀ k, c = ((a + 1 + Tw.sizes l : Nat) : Int) → Fit false N (a + 1 + Tw.sizes l) k → k.deep ≤ b → False) → ReadR N a (b + 1) none 0 false := by
      intro hb
      refine ⟨fun h => (by cases h), fun _ => ⟨rfl, fun x hf hd => ?_⟩⟩
      obtain ⟨k, k1, k2, k3⟩ := hK.next hn hi hf hd
      replace k1 : kids[l.length]? = some ((a + 1 + Tw.sizes l : Nat) : Int) := k1
      rw [hc] at k1
      exact hb k (Option.some.inj k1) k2 k3
    conv => whnf
    refine ⟨Int.natCast_nonneg _, ltI hc, ?_⟩
    conv => whnf
    refine ex2 _ (nthI hc) ?_
    conv => whnf
    refine br2 (fun h7 => ?_) (fun h7 => ?_)
    · have h7' : c ≠ ((a + 1 + Tw.sizes l : Nat) : Int) := by
        replace h7 : (c != ((a + 1 + Tw.sizes l : Nat) : Int)) = true := h7
        simpa using h7
      conv => whnf
      refine ⟨2, RngX, RngX.ds, fun _ => rfl, ?_⟩
      conv => whnf
      refine ⟨3, Tw, subE 0, subE_len 0, ?_⟩
      conv => whnf
      exact ⟨⟨rfl, none, _, _, rfl, fail fun k h _ _ => h7' h⟩⟩
    have h7' : c = ((a + 1 + Tw.sizes l : Nat) : Int) := by
      replace h7 : (c != ((a + 1 + Tw.sizes l : Nat) : Int)) = false := h7
      simpa using h7
    subst h7'
    generalize hnx : a + 1 + Tw.sizes l = nx at *
    conv => whnf
    refine ⟨⟨⟨N, nx, b, IntKind.i64.wrap (deep + 1), hN, hp, by rw [hwd]; omega, by rw [hwd]; omega⟩, Nat.lt_succ_self b⟩, rfl, ?_⟩
    rintro _ _ ⟨rfl, o, next, ok, rfl, rr⟩
    replace rr : ReadR N nx b o next ok := rr
    cases ok with
    | false =>
      obtain ⟨rfl, rno⟩ := rr.no rfl
      conv => whnf
      refine ⟨2, RngX, RngX.ds, fun _ => rfl, ?_⟩
      conv => whnf
      refine ⟨3, Tw, subE 0, subE_len 0, ?_⟩
      conv => whnf
      exact ⟨⟨rfl, none, _, _, rfl, fail fun k _ k2 k3 => rno k k2 k3⟩⟩
    | true =>
    obtain ⟨⟨us, is⟩, rfl, hxf, hd, rfl⟩ := rr.yes rfl
    have hdp := (Tw.mk us is).deep_pos
    obtain ⟨b, rfl⟩ : ∃ q, b = q + 1 := ⟨b - 1, by omega⟩
    have hsz : a + 1 + Tw.sizes (l ++ [.mk us is]) = nx + (Tw.mk us is).size := by rw [Tw.sizes_app, ← hnx]; simp [Tw.sizes]; omega
    conv => whnf
    refine ⟨[.mk us is], rfl, ?_, ?_⟩
    · show l.length + 1 ≤ 4294967296
      have := Tw.len_sizes l
      omega
    conv => whnf
    refine ⟨kids.length - (l.length + 1), [(562, 562), (160, 160), (688, 688), (1184, 16000), (48, 48), (0, 0), (96, 96)], S0 (l.length + 1) (nx + (Tw.mk us is).size), H0 (l ++ [.mk us is]), by omega,
      ⟨rfl, ⟨incI hi hkl, rfl, rfl, rfl, rfl, rfl, rfl, rfl, trivial⟩, by rfl, by rfl, by rfl, by rfl, by rfl, by rfl, by rfl, trivial⟩, l ++ [.mk us is], by simp; omega, hK.snoc (by rw [hnx]; exact hc) (by rw [hnx]; exact hxf) hd, by simp, by rw [hsz]; simp, rfl⟩
  · have hi : l.length = kids.length := by have := of_decide_eq_false h6; omega
    have hfitl : Fit false N a (.mk ps l) := by
      simp only [Fit]
      refine ⟨⟨_, hn, rfl, ?_, fun h => by cases h⟩, hK.fit⟩
      have := hK.kids
      rw [hi, List.take_length] at this
      exact this
    have hdl : (Tw.mk ps l).deep ≤ b + 1 := by
      rw [mk_deep]
      have : ∀ q : List Tw, (∀ k ∈ q, k.deep ≤ b) → Tw.deeps q ≤ b := by
        intro q
        induction q with
        | nil => intro _; exact Nat.zero_le _
        | cons k q ih =>
          intro h
          simp only [Tw.deeps]
          have := h k (by simp)
          have := ih fun z hz => h z (by simp [hz])
          omega
      have := this l hK.deep
      omega
    conv => whnf
    refine ⟨⟨rfl, some (.mk ps l), ((a + 1 + Tw.sizes l : Nat) : Int), true, ?_, ⟨fun _ => ⟨.mk ps l, rfl, hfitl, hdl, ?_⟩, fun h => (by cases h)⟩⟩⟩
    · show [[D.lf (.bool ((kids.length : Int) == 0)), .row 2 RngX.ds ps, .row 3 (subE b) l], _, _] = [[D.lf (.bool l.isEmpty), .row 2 RngX.ds ps, .row 3 (subE b) l], _, _]
      have : ((kids.length : Int) == 0) = l.isEmpty := by rw [Bool.eq_iff_iff, List.isEmpty_iff, beq_iff_eq, ← List.length_eq_zero_iff]; omega
      rw [this]
    · simp only [Tw.size]; rw [Nat.add_assoc]
theorem sRead_ok : FnOk Try.prog 185 cSRead := fn_rec (fun g => g.b) fun n hs x hx => fnX_at tab_ok (SOk.cons hs (SOk.cons gh_ok SOk.nil)) mixed (fn := Try.f185) (code := body Try.f185) ⟨Try.func185, rfl, by kernel_rfl, by kernel_rfl, by kernel_rfl, by kernel_rfl⟩ (ev_sRead n x hx)
structure RootS (N : List NodeX) (o : Option Tw) (ok : Bool) : Prop where
  yes : ok = true → N ≠ [] → ∃ x, o = some x ∧ Fit false N 0 x ∧ x.size = N.length ∧ x.deep ≤ 13
  no : ok = false → ∀ x, Fit false N 0 x → x.size = N.length → ¬ x.deep ≤ 13
  emp : N = [] → o = some (.mk [] []) ∧ ok = true
def cSRoot : Con := relC TreeX [(.rd, true)] [true, false] (fun g => [[.row 3 NodeX.ds g.N]]) (fun g r => ∃ o ok, r = [optS 13 o, [.lf (.bool ok)]] ∧ RootS g.N o ok)
theorem ev_sRoot : ∀ x, evFnX tab [(185, cSRead)] cSRoot Try.f131 (body Try.f131) x := by
  rintro ⟨N, f, hf, hN, hp⟩
  replace hN : N.length ≤ 1048576 := hN
  conv => whnf
  intro _
  conv => whnf
  refine br2 (fun h1 => ?_) (fun h1 => ?_)
  · have h1' : N = [] := by
      replace h1 : ((N.length : Int) == 0) = true := h1
      exact List.eq_nil_of_length_eq_zero (by simpa using h1)
    subst h1'
    conv => whnf
    refine ⟨2, RngX, RngX.ds, fun _ => rfl, ?_⟩
    conv => whnf
    refine ⟨3, Tw, subE 12, subE_len 12, ?_⟩
    conv => whnf
    exact ⟨⟨rfl, some (.mk [] []), true, rfl, fun _ h => absurd rfl h, fun h => (by cases h), fun _ => ⟨rfl, rfl⟩⟩⟩
  have h1' : N ≠ [] := by
    replace h1 : ((N.length : Int) == 0) = false := h1
    rintro rfl; simp at h1
  conv => whnf
  refine ⟨⟨N, 0, 13, 0, hN, hp, rfl, by omega⟩, rfl, ?_⟩
  rintro _ _ ⟨rfl, o, next, ok, rfl, rr⟩
  replace rr : ReadR N 0 13 o next ok := rr
  cases ok with
  | false =>
    obtain ⟨rfl, rno⟩ := rr.no rfl
    conv => whnf
    repeat ((first | refine rc_i rfl ?_ | refine rc_i (fun _ => rfl) ?_); conv => whnf)
    exact ⟨⟨rfl, none, false, rfl, fun h => (by cases h), fun _ x hf _ hd => rno x hf hd, fun h => absurd h h1'⟩⟩
  | true =>
    obtain ⟨⟨us, is⟩, rfl, hxf, hd, rfl⟩ := rr.yes rfl
    conv => whnf
    intro _
    conv => whnf
    repeat ((first | refine rc_i rfl ?_ | refine rc_i (fun _ => rfl) ?_); conv => whnf)
    refine ⟨⟨rfl, some (.mk us is), _, rfl, ⟨fun h _ => ⟨_, rfl, hxf, ?_, hd⟩, fun h x hf hs _ => ?_, fun h => absurd h h1'⟩⟩⟩
    · replace h : (((0 + (Tw.mk us is).size : Nat) : Int) == (N.length : Int)) = true := h
      rw [beq_iff_eq] at h
      show (Tw.mk us is).size = N.length
      omega
    · replace h : (((0 + (Tw.mk us is).size : Nat) : Int) == (N.length : Int)) = false := h
      replace hs : x.size = N.length := hs
      rw [Fit.uniq x _ 0 hf hxf] at hs
      rw [beq_eq_false_iff_ne] at h
      omega
theorem sRoot_ok : FnOk Try.prog 131 cSRoot := fnOk_of fun x => fnX_at tab_ok (SOk.cons sRead_ok SOk.nil) mixed (fn := Try.f131) (code := body Try.f131) ⟨Try.func131, rfl, by kernel_rfl, by kernel_rfl, by kernel_rfl, by kernel_rfl⟩ (ev_sRoot x)
end Go.Vm
namespace Go.Vm
open Go.Proofs
set_option maxRecDepth 100000
set_option linter.unusedVariables false
set_option linter.unusedSimpArgs false

def PreEq {α : Type} (l m : List α) (i : Nat) : Prop := ∀ j, j < i → l[j]? = m[j]?
theorem preEq_all {α : Type} {l m : List α} (h : l.length = m.length) (g : PreEq l m l.length) : l = m := by
  apply List.ext_getElem?
  intro j
  rcases Nat.lt_or_ge j l.length with h1 | h1
  · exact g j h1
  · rw [List.getElem?_eq_none h1, List.getElem?_eq_none (by omega)]
theorem PreEq.snoc {α : Type} {l m : List α} {i : Nat} {y : α} (h : PreEq l m i) (hl : l[i]? = some y) (hm : m[i]? = some y) : PreEq l m (i + 1) := fun j hj => by
  rcases Nat.lt_or_ge j i with h1 | h1
  · exact h j h1
  · obtain rfl : j = i := by omega
    rw [hl, hm]
theorem ev_sameNode : ∀ x, evFnX tab [] (cEq NodeX.ds) Try.f138 (body Try.f138) x := by
  rintro ⟨⟨ps, keys, kids⟩, ⟨qs, leys, lids⟩⟩
  have no : (⟨ps, keys, kids⟩ : NodeX) ≠ ⟨qs, leys, lids⟩ → [[D.lf (.bool false)]] = [[D.lf (.bool (eqX (⟨ps, keys, kids⟩ : NodeX) ⟨qs, leys, lids⟩))]] := fun h => by rw [eqX_no.2 h]
  conv => whnf
  intro hl1
  replace hl1 : ps.length ≤ 9223372036854775807 := hl1
  conv => whnf
  intro _
  conv => whnf
  refine br2 (fun h1 => ?_) (fun h1 => ?_)
  · replace h1 : ((ps.length : Int) != (qs.length : Int)) = true := h1
    conv => whnf
    refine ⟨⟨rfl, no ?_⟩⟩
    rintro ⟨⟩; simp at h1
  replace h1 : ((ps.length : Int) != (qs.length : Int)) = false := h1
  have h1' : ps.length = qs.length := by simp at h1; omega
  conv => whnf
  intro hl2
  replace hl2 : keys.length ≤ 9223372036854775807 := hl2
  conv => whnf
  intro _
  conv => whnf
  refine br2 (fun h2 => ?_) (fun h2 => ?_)
  · replace h2 : ((keys.length : Int) != (leys.length : Int)) = true := h2
    conv => whnf
    refine ⟨⟨rfl, no ?_⟩⟩
    rintro ⟨⟩; simp at h2
  replace h2 : ((keys.length : Int) != (leys.length : Int)) = false := h2
  have h2' : keys.length = leys.length := by simp at h2; omega
  conv => whnf
  intro hl3
  replace hl3 : kids.length ≤ 9223372036854775807 := hl3
  conv => whnf
  intro _
  conv => whnf
  refine br2 (fun h3 => ?_) (fun h3 => ?_)
  · replace h3 : ((kids.length : Int) != (lids.length : Int)) = true := h3
    conv => whnf
    refine ⟨⟨rfl, no ?_⟩⟩
    rintro ⟨⟩; simp at h3
  replace h3 : ((kids.length : Int) != (lids.length : Int)) = false := h3
  have h3' : kids.length = lids.length := by simp at h3; omega
  conv => whnf
  intro _
  conv => whnf
  let H0 : Hp := [(32, some (.arr true 3 [[.sl 0 none, .sl 1 none, .sl 2 none]])), (48, some (.arr true 3 [[.sl 16 none, .sl 17 none, .sl 18 none]])), (0, some (.row .lent 2 RngX.ds ps)), (1, some (.row .lent 1 strE1 keys)), (2, some (.row .lent 1 intE1 kids)),
    (16, some (.row .lent 2 RngX.ds qs)), (17, some (.row .lent 1 strE1 leys)), (18, some (.row .lent 1 intE1 lids))]
  let R0 : List (Nat × Nat) := [(32, 32), (48, 48), (0, 0), (1, 1), (2, 2), (16, 16), (17, 17), (18, 18)]
  let S1 : Nat → Sl := fun i => [(36, .lf (.int .i64 i)), (35, .lf (.int .i64 ps.length)), (2, .pt 32 0 0), (3, .pt 48 0 0)]
  refine ⟨fun m s h => ∃ i : Nat, i ≤ ps.length ∧ PreEq ps qs i ∧ m = ps.length - i ∧ s = S1 i ∧ h = H0, ps.length, R0, S1 0, H0, ⟨rfl, ⟨rfl, rfl, rfl, rfl, trivial⟩, rfl, rfl, rfl, rfl, rfl, rfl, rfl, rfl, trivial⟩, ⟨0, by omega, fun j h => by omega, rfl, rfl, rfl⟩, ?_⟩
  rintro m _ _ ⟨i, g1, g2, rfl, rfl, rfl⟩
  conv => whnf
  refine br2 (fun h5 => ?_) (fun h5 => ?_)
  · have hi : i < ps.length := by have := of_decide_eq_true h5; omega
    obtain ⟨y, hy⟩ := getL hi
    obtain ⟨z, hz⟩ := getL (l := qs) (j := i) (by omega)
    conv => whnf
    refine ⟨Int.natCast_nonneg _, ltI hy, ?_⟩
    conv => whnf
    refine ex2 _ (nthI hy) ?_
    conv => whnf
    refine ⟨Int.natCast_nonneg _, ltI hz, ?_⟩
    conv => whnf
    refine ex2 _ (nthI hz) ?_
    conv => whnf
    refine br2 (fun h6 => ?_) (fun h6 => ?_)
    · replace h6 : (!(strEq y.lo z.lo && (strEq y.hi z.hi && true))) = true := h6
      conv => whnf
      refine ⟨⟨rfl, no ?_⟩⟩
      rintro ⟨⟩
      rw [hy] at hz; cases hz
      simp [strEq_refl] at h6
    · replace h6 : (!(strEq y.lo z.lo && (strEq y.hi z.hi && true))) = false := h6
      have e : y = z := by
        simp [strEq_iff] at h6
        obtain ⟨a, b⟩ := y; obtain ⟨c, d⟩ := z
        simp at h6; rw [h6.1, h6.2]
      subst e
      conv => whnf
      exact ⟨ps.length - (i + 1), R0, S1 (i + 1), H0, by omega, ⟨rfl, ⟨incI hi hl1, rfl, rfl, rfl, trivial⟩, rfl, rfl, rfl, rfl, rfl, rfl, rfl, rfl, trivial⟩, i + 1, by omega, g2.snoc hy hz, rfl, rfl, rfl⟩
  have hi : i = ps.length := by have := of_decide_eq_false h5; omega
  subst hi
  obtain rfl := preEq_all h1' g2
  clear g1 g2 h5
  conv => whnf
  intro _
  conv => whnf
  let S2 : Nat → Sl := fun i => [(54, .lf (.int .i64 i)), (53, .lf (.int .i64 keys.length)), (2, .pt 32 0 0), (3, .pt 48 0 0)]
  refine ⟨fun m s h => ∃ i : Nat, i ≤ keys.length ∧ PreEq keys leys i ∧ m = keys.length - i ∧ s = S2 i ∧ h = H0, keys.length, R0, S2 0, H0, ⟨rfl, ⟨rfl, rfl, rfl, rfl, trivial⟩, rfl, rfl, rfl, rfl, rfl, rfl, rfl, rfl, trivial⟩, ⟨0, by omega, fun j h => by omega, rfl, rfl, rfl⟩, ?_⟩
  rintro m _ _ ⟨i, g1, g2, rfl, rfl, rfl⟩
  conv => whnf
  refine br2 (fun h5 => ?_) (fun h5 => ?_)
  · have hi : i < keys.length := by have := of_decide_eq_true h5; omega
    obtain ⟨y, hy⟩ := getL hi
    obtain ⟨z, hz⟩ := getL (l := leys) (j := i) (by omega)
    conv => whnf
    refine ⟨Int.natCast_nonneg _, ltI hy, ?_⟩
    conv => whnf
    refine ex2 _ (nthI hy) ?_
    conv => whnf
    refine ⟨Int.natCast_nonneg _, ltI hz, ?_⟩
    conv => whnf
    refine ex2 _ (nthI hz) ?_
    conv => whnf
    refine br2 (fun h6 => ?_) (fun h6 => ?_)
    · replace h6 : (!strEq y z) = true := h6
      conv => whnf
      refine ⟨⟨rfl, no ?_⟩⟩
      rintro ⟨⟩
      rw [hy] at hz; cases hz
      simp [strEq_refl] at h6
    · replace h6 : (!strEq y z) = false := h6
      have e : y = z := by simpa [strEq_iff] using h6
      subst e
      conv => whnf
      exact ⟨keys.length - (i + 1), R0, S2 (i + 1), H0, by omega, ⟨rfl, ⟨incI hi hl2, rfl, rfl, rfl, trivial⟩, rfl, rfl, rfl, rfl, rfl, rfl, rfl, rfl, trivial⟩, i + 1, by omega, g2.snoc hy hz, rfl, rfl, rfl⟩
  have hi : i = keys.length := by have := of_decide_eq_false h5; omega
  subst hi
  obtain rfl := preEq_all h2' g2
  clear g1 g2 h5
  conv => whnf
  intro _
  conv => whnf
  let S3 : Nat → Sl := fun i => [(72, .lf (.int .i64 i)), (71, .lf (.int .i64 kids.length)), (2, .pt 32 0 0), (3, .pt 48 0 0)]
  refine ⟨fun m s h => ∃ i : Nat, i ≤ kids.length ∧ PreEq kids lids i ∧ m = kids.length - i ∧ s = S3 i ∧ h = H0, kids.length, R0, S3 0, H0, ⟨rfl, ⟨rfl, rfl, rfl, rfl, trivial⟩, rfl, rfl, rfl, rfl, rfl, rfl, rfl, rfl, trivial⟩, ⟨0, by omega, fun j h => by omega, rfl, rfl, rfl⟩, ?_⟩
  rintro m _ _ ⟨i, g1, g2, rfl, rfl, rfl⟩
  conv => whnf
  refine br2 (fun h5 => ?_) (fun h5 => ?_)
  · have hi : i < kids.length := by have := of_decide_eq_true h5; omega
    obtain ⟨y, hy⟩ := getL hi
    obtain ⟨z, hz⟩ := getL (l := lids) (j := i) (by omega)
    conv => whnf
    refine ⟨Int.natCast_nonneg _, ltI hy, ?_⟩
    conv => whnf
    refine ex2 _ (nthI hy) ?_
    conv => whnf
    refine ⟨Int.natCast_nonneg _, ltI hz, ?_⟩
    conv => whnf
    refine ex2 _ (nthI hz) ?_
    conv => whnf
    refine br2 (fun h6 => ?_) (fun h6 => ?_)
    · replace h6 : (y != z) = true := h6
      conv => whnf
      refine ⟨⟨rfl, no ?_⟩⟩
      rintro ⟨⟩
      rw [hy] at hz; cases hz
      simp at h6
    · replace h6 : (y != z) = false := h6
      have e : y = z := by simpa using h6
      subst e
      conv => whnf
      exact ⟨kids.length - (i + 1), R0, S3 (i + 1), H0, by omega, ⟨rfl, ⟨incI hi hl3, rfl, rfl, rfl, trivial⟩, rfl, rfl, rfl, rfl, rfl, rfl, rfl, rfl, trivial⟩, i + 1, by omega, g2.snoc hy hz, rfl, rfl, rfl⟩
  have hi : i = kids.length := by have := of_decide_eq_false h5; omega
  subst hi
  obtain rfl := preEq_all h3' g2
  conv => whnf
  refine ⟨⟨rfl, ?_⟩⟩
  show [[D.lf (.bool true)]] = [[D.lf (.bool (eqX (⟨ps, keys, kids⟩ : NodeX) ⟨ps, keys, kids⟩))]]
  rw [eqX_refl]
theorem sameNode_ok : FnOk Try.prog 138 (cEq NodeX.ds) := fnOk_of fun x => fnX_at tab_ok (SOk.nil) mixed (fn := Try.f138) (code := body Try.f138) ⟨Try.func138, rfl, by kernel_rfl, by kernel_rfl, by kernel_rfl, by kernel_rfl⟩ (ev_sameNode x)
theorem treeP_read {N : List NodeX} (h : TreeP N) (hne : N ≠ []) : ∃ x d, Shp true d x ∧ PairsOkP x.all ∧ N = x.lay 0 ∧ Fit false N 0 x ∧ x.size = N.length ∧ d ≤ 7 ∧ x.deep = d := by
  obtain ⟨o, ho, rfl⟩ := h
  cases o with
  | none => exact absurd rfl hne
  | some x =>
    obtain ⟨d, hd⟩ := ho.shp
    obtain ⟨e1, e2⟩ := fit_all.2 (show x.lay 0 = x.lay 0 from rfl)
    exact ⟨x, d, hd, ho.ok, rfl, e1.noK, e2, hd.deep_le ho.ok.len, hd.deep⟩
theorem ev_sTreeOk : ∀ x, evFnX tab [(1000013, cGh), (1000016, cGh), (131, cSRoot), (135, (pureC FullX [(.rd, true), (.rd, false)] [false] (fun f => [subE f.t.n f.t.x, [.lf (.bool f.root)]]) (fun f => [[.lf (.bool (Tw.full f.root f.t.x))]]))), (136, cSDeep), (132, (pureC PrsS [(.rd, true)] [false] (fun p => [subE p.n p.x]) (fun p => [[.row 2 RngX.ds p.x.all]]))), (60, cPairsOk), (137, cSLay), (138, (cEq NodeX.ds))] cTreeOk Try.f57 (body Try.f57) x := by
  rintro ⟨N, f, hf, hN, hp⟩
  replace hN : N.length ≤ 1048576 := hN
  conv => whnf
  intro _
  conv => whnf
  refine br2 (fun h1 => ?_) (fun h1 => ?_)
  · have h1' : N = [] := by
      replace h1 : ((N.length : Int) == 0) = true := h1
      exact List.eq_nil_of_length_eq_zero (by simpa using h1)
    subst h1'
    conv => whnf
    exact ⟨⟨rfl, true, rfl, fun _ => ⟨none, ⟨trivial, by simp [allO], fun p hp => by simp [allO] at hp, by simp [allO, Srt]⟩, rfl⟩, fun _ => rfl⟩⟩
  have h1' : N ≠ [] := by
    replace h1 : ((N.length : Int) == 0) = false := h1
    rintro rfl; simp at h1
  have no : (∀ x d, Shp true d x → PairsOkP x.all → N = x.lay 0 → Fit false N 0 x → x.size = N.length → x.deep ≤ 13 → False) → (false = true ↔ TreeP N) := fun h =>
    ⟨fun e => (by cases e), fun e => by
      obtain ⟨x, d, a1, a2, a3, a4, a5, a6, a7⟩ := treeP_read e h1'
      exact (h x d a1 a2 a3 a4 a5 (by omega)).elim⟩
  conv => whnf
  intro _
  conv => whnf
  refine br2 (fun h2 => ?_) (fun h2 => ?_)
  · replace h2 : decide ((N.length : Int) > 400) = true := h2
    have h2' := of_decide_eq_true h2
    conv => whnf
    refine ⟨⟨rfl, false, rfl, no fun x d a1 a2 a3 a4 a5 _ => ?_⟩⟩
    have := a1.manyR.2.2.1
    have := a2.len
    omega
  replace h2 : decide ((N.length : Int) > 400) = false := h2
  have h2' := of_decide_eq_false h2
  conv => whnf
  refine ⟨⟨N, f, hf, hN, hp⟩, rfl, ?_⟩
  rintro _ _ ⟨rfl, o, ok, rfl, rs⟩
  replace rs : RootS N o ok := rs
  cases ok with
  | false =>
    have rno := rs.no rfl
    have out : false = true ↔ TreeP N := no fun x d _ _ _ a4 a5 a6 => rno x a4 a5 a6
    rcases o with _ | ⟨us, is⟩
    all_goals
      conv => whnf
      exact ⟨⟨rfl, false, rfl, out⟩⟩
  | true =>
  obtain ⟨⟨us, is⟩, rfl, hxf, hsz, hd⟩ := rs.yes rfl h1'
  have uniq : ∀ x, Fit false N 0 x → x = .mk us is := fun x h => Fit.uniq x _ 0 h hxf
  conv => whnf
  refine ⟨⟨⟨13, .mk us is, hd, by omega⟩, true⟩, rfl, ?_⟩
  rintro _ _ ⟨rfl, rfl⟩
  conv => whnf
  refine br2 (fun h3 => ?_) (fun h3 => ?_)
  · have h3' : Tw.full true (.mk us is) = false := by
      replace h3 : (!Tw.full true (.mk us is)) = true := h3
      simpa using h3
    conv => whnf
    refine ⟨⟨rfl, false, rfl, no fun x d a1 _ _ a4 _ _ => ?_⟩⟩
    rw [uniq x a4] at a1
    rw [a1.full.1] at h3'; cases h3'
  have h3' : Tw.full true (.mk us is) = true := by
    replace h3 : (!Tw.full true (.mk us is)) = false := h3
    simpa using h3
  conv => whnf
  refine ⟨⟨13, .mk us is, hd, by omega⟩, rfl, ?_⟩
  rintro _ _ ⟨rfl, v, rfl, v1, v2, v3⟩
  conv => whnf
  replace v2 : 0 ≤ v → Lev (Tw.mk us is).deep (.mk us is) ∧ v = ((Tw.mk us is).deep : Int) := v2
  replace v3 : v < 0 → ∀ d, ¬ Lev d (.mk us is) := v3
  refine br2 (fun h4 => ?_) (fun h4 => ?_)
  · have h4' : v < 0 := of_decide_eq_true h4
    conv => whnf
    refine ⟨⟨rfl, false, rfl, no fun x d a1 _ _ a4 _ _ => ?_⟩⟩
    rw [uniq x a4] at a1
    exact v3 h4' d a1.full.2
  have h4' : 0 ≤ v := by have h5 : ¬ v < 0 := of_decide_eq_false h4; omega
  obtain ⟨hlev, _⟩ := v2 h4'
  have hshp := Shp.of_full hlev h3'
  have hp4 := hshp.pairs4
  conv => whnf
  refine ⟨⟨13, .mk us is, .inr ⟨_, _, hshp⟩, hd, by show (Tw.mk us is).all.length ≤ 4294967296; omega⟩, rfl, ?_⟩
  rintro _ _ ⟨rfl, rfl⟩
  conv => whnf
  refine ⟨(Tw.mk us is).all, rfl, ?_⟩
  rintro _ _ ⟨rfl, b, rfl, e⟩
  conv => whnf
  replace e : b = true ↔ PairsOkP (Tw.mk us is).all := e
  refine br2 (fun h5 => ?_) (fun h5 => ?_)
  · have h5' : ¬ PairsOkP (Tw.mk us is).all := fun h => by rw [e.2 h] at h5; cases h5
    conv => whnf
    refine ⟨⟨rfl, false, rfl, no fun x d _ a2 _ a4 _ _ => ?_⟩⟩
    rw [uniq x a4] at a2
    exact h5' a2
  have h5' : PairsOkP (Tw.mk us is).all := e.1 (by cases b <;> first | rfl | cases h5)
  conv => whnf
  refine ⟨3, NodeX, NodeX.ds, fun _ => rfl, ?_⟩
  conv => whnf
  refine ⟨⟨⟨13, .mk us is, true, (Tw.mk us is).deep, hshp, hd⟩, [], by show 0 + (Tw.mk us is).size ≤ 4194304; omega⟩, rfl, ?_⟩
  rintro _ _ ⟨rfl, rfl⟩
  conv => whnf
  intro _
  conv => whnf
  intro _
  conv => whnf
  have hA : ((Tw.mk us is).lay 0).length = N.length := by rw [Tw.lay_len]; exact hsz
  generalize hAe : (Tw.mk us is).lay 0 = A at *
  refine br2 (fun h6 => ?_) (fun h6 => ?_)
  · exfalso
    replace h6 : ((A.length : Int) != (N.length : Int)) = true := h6
    rw [hA] at h6; simp at h6
  conv => whnf
  intro _
  conv => whnf
  let S0 : Nat → Sl := fun i => [(48, .lf (.int .i64 i)), (47, .lf (.int .i64 A.length)), (5, .sl 624 none), (1, .pt 16 0 0)]
  let H0 : Hp := [(624, some (.row .own 3 NodeX.ds A)), (16, some (.arr true 1 [[.sl 0 none]])), (0, some (.row .lent 3 NodeX.ds N))]
  refine ⟨fun m s h => ∃ i : Nat, i ≤ A.length ∧ PreEq A N i ∧ m = A.length - i ∧ s = S0 i ∧ h = H0, A.length, [(624, 624), (16, 16), (0, 0)], S0 0, H0, ⟨rfl, ⟨rfl, rfl, rfl, rfl, trivial⟩, rfl, rfl, rfl, trivial⟩, ⟨0, by omega, fun j h => by omega, rfl, rfl, rfl⟩, ?_⟩
  rintro m _ _ ⟨i, g1, g2, rfl, rfl, rfl⟩
  conv => whnf
  refine br2 (fun h7 => ?_) (fun h7 => ?_)
  · have hi : i < A.length := by have := of_decide_eq_true h7; omega
    obtain ⟨y, hy⟩ := getL hi
    obtain ⟨z, hz⟩ := getL (l := N) (j := i) (by omega)
    conv => whnf
    refine ⟨[.foc 624 i 1000], ?_⟩
    conv => whnf
    refine ex2 y (by rw [nth_eq]; exact hy) ?_
    conv => whnf
    refine ⟨Int.natCast_nonneg _, ltI hy, ?_⟩
    conv => whnf
    refine ⟨Int.toNat_natCast i, ?_⟩
    conv => whnf
    refine ⟨Int.natCast_nonneg _, ltI hz, ?_⟩
    conv => whnf
    refine ex2 _ (nthI hz) ?_
    conv => whnf
    refine ⟨(y, z), rfl, ?_⟩
    rintro _ _ ⟨rfl, rfl⟩
    conv => whnf
    repeat ((first | refine rc_i rfl ?_ | refine rc_i (fun _ => rfl) ?_); conv => whnf)
    refine br2 (fun h8 => ?_) (fun h8 => ?_)
    · have h8' : y ≠ z := by
        replace h8 : (!eqX y z) = true := h8
        rw [Bool.not_eq_true', eqX_no] at h8; exact h8
      conv => whnf
      refine ⟨⟨rfl, false, rfl, no fun x d a1 a2 a3 a4 _ _ => ?_⟩⟩
      rw [uniq x a4, hAe] at a3
      rw [a3, hy] at hz
      exact h8' (Option.some.inj hz)
    · have h8' : y = z := by
        replace h8 : (!eqX y z) = false := h8
        rw [Bool.not_eq_false', eqX_iff] at h8; exact h8
      subst h8'
      conv => whnf
      refine ⟨[.unf 624], ?_⟩
      conv => whnf
      refine ⟨y, rfl, ?_⟩
      conv => whnf
      refine ⟨A.length - (i + 1), [(624, 624), (16, 16), (0, 0)], S0 (i + 1), H0, by omega, ⟨rfl, ⟨incI hi (by omega), rfl, rfl, rfl, trivial⟩, ?_, rfl, rfl, trivial⟩, i + 1, by omega, g2.snoc hy hz, rfl, rfl, rfl⟩
      show _ = some (Ob.row Kind.own 3 NodeX.ds A)
      have : A.set i y = A := by
        apply List.ext_getElem?
        intro j
        rw [List.getElem?_set]
        split
        · rename_i e; subst e; exact hy.symm
        · rfl
      show some (Ob.row Kind.own 3 NodeX.ds (A.set i y)) = _
      rw [this]
  · have hi : i = A.length := by have := of_decide_eq_false h7; omega
    subst hi
    have := preEq_all hA g2
    conv => whnf
    exact ⟨⟨rfl, true, rfl, fun _ => ⟨some (.mk us is), ⟨⟨_, hshp⟩, h5'⟩, this.symm.trans hAe.symm⟩, fun _ => rfl⟩⟩
theorem sTreeOk_ok : FnOk Try.prog 57 cTreeOk := fnOk_of fun x => fnX_at tab_ok (SOk.cons gh_ok (SOk.cons gh_ok (SOk.cons sRoot_ok (SOk.cons sFull_ok (SOk.cons sDeep_ok (SOk.cons sPairs_ok (SOk.cons sPairsOk_ok (SOk.cons sLay_ok (SOk.cons sameNode_ok SOk.nil))))))))) mixed (fn := Try.f57) (code := body Try.f57) ⟨Try.func57, rfl, by kernel_rfl, by kernel_rfl, by kernel_rfl, by kernel_rfl⟩ (ev_sTreeOk x)
theorem ev_sTreeAll : ∀ x, evFnX tab [(57, cTreeOk), (131, cSRoot), (132, (pureC PrsS [(.rd, true)] [false] (fun p => [subE p.n p.x]) (fun p => [[.row 2 RngX.ds p.x.all]])))] cTreeAll Try.f54 (body Try.f54) x := by
  rintro ⟨N, f, hf, hN, hp⟩
  replace hN : N.length ≤ 1048576 := hN
  conv => whnf
  refine ⟨⟨N, f, hf, hN, hp⟩, rfl, ?_⟩
  rintro _ _ ⟨rfl, b, rfl, e⟩
  conv => whnf
  replace e : b = true ↔ TreeP N := e
  refine br2 (fun h1 => ?_) (fun h1 => ?_)
  · have h1' : ¬ TreeP N := fun h => by rw [e.2 h] at h1; cases h1
    conv => whnf
    refine ⟨2, RngX, RngX.ds, fun _ => rfl, ?_⟩
    conv => whnf
    exact ⟨⟨rfl, [], rfl, fun o ho e => absurd ⟨o, ho, e⟩ h1', fun _ => rfl⟩⟩
  have h1' : TreeP N := e.1 (by cases b <;> first | rfl | cases h1)
  conv => whnf
  refine ⟨⟨N, f, hf, hN, hp⟩, rfl, ?_⟩
  rintro _ _ ⟨rfl, o, ok, rfl, rs⟩
  replace rs : RootS N o ok := rs
  have fin : ∀ x : Tw, (N = [] → x = .mk [] []) → (N ≠ [] → Fit false N 0 x) → AllR N x.all := by
    intro x g1 g2
    refine ⟨fun o ho e => ?_, fun h => absurd h1' h⟩
    by_cases hne : N = []
    · rw [g1 hne]
      rw [hne] at e
      rw [layO_nil.1 e.symm]; rfl
    · obtain ⟨y, d, a1, a2, a3, a4, a5, a6, a7⟩ := treeP_read h1' hne
      have h2 := Fit.uniq x y 0 (g2 hne) a4
      rw [h2]
      rw [a3] at e
      rw [← layO_inj (o := some y) e]; rfl
  obtain ⟨us, is, rfl, rfl, g1, g2, g3, g4⟩ : ∃ us is, o = some (.mk us is) ∧ ok = true ∧ (N = [] → Tw.mk us is = .mk [] []) ∧ (N ≠ [] → Fit false N 0 (.mk us is)) ∧ (Tw.mk us is).deep ≤ 13 ∧ (Tw.mk us is = .mk [] [] ∨ ∃ b d, Shp b d (.mk us is)) := by
    by_cases hne : N = []
    · obtain ⟨rfl, rfl⟩ := rs.emp hne
      exact ⟨[], [], rfl, rfl, fun _ => rfl, fun h => absurd hne h, by simp [Tw.deep, Tw.deeps], .inl rfl⟩
    · obtain ⟨y, d, a1, a2, a3, a4, a5, a6, a7⟩ := treeP_read h1' hne
      cases ok with
      | false => exact absurd (show y.deep ≤ 13 by omega) (rs.no rfl y a4 a5)
      | true =>
        obtain ⟨x, rfl, b1, b2, b3⟩ := rs.yes rfl hne
        have := Fit.uniq x y 0 b1 a4
        subst this
        obtain ⟨us, is⟩ := x
        exact ⟨us, is, rfl, rfl, fun h => absurd h hne, fun _ => b1, b3, .inr ⟨_, _, a1⟩⟩
  have hlen : (Tw.mk us is).all.length ≤ 4294967296 := by
    obtain ⟨o', ho', e'⟩ := h1'
    rw [(fin _ g1 g2).yes o' ho' e']
    have := ho'.ok.len
    omega
  conv => whnf
  refine ⟨⟨13, .mk us is, g4, g3, hlen⟩, rfl, ?_⟩
  rintro _ _ ⟨rfl, rfl⟩
  conv => whnf
  exact ⟨⟨rfl, _, rfl, fin _ g1 g2⟩⟩
theorem sTreeAll_ok : FnOk Try.prog 54 cTreeAll := fnOk_of fun x => fnX_at tab_ok (SOk.cons sTreeOk_ok (SOk.cons sRoot_ok (SOk.cons sPairs_ok SOk.nil))) mixed (fn := Try.f54) (code := body Try.f54) ⟨Try.func54, rfl, by kernel_rfl, by kernel_rfl, by kernel_rfl, by kernel_rfl⟩ (ev_sTreeAll x)
end Go.Vm
namespace Go.Vm
open Go.Proofs
set_option maxRecDepth 100000
set_option linter.unusedVariables false
set_option linter.unusedSimpArgs false

def hasB (r : RngX) (k : ByteArray) : Bool := !strLt k r.lo && (emp r.hi || strLt k r.hi)
def cHas (f : RngX → ByteArray → Bool) : Con := pureC (RngX × ByteArray) [(.rd, true), (.rd, false)] [false] (fun x => [x.1.ds, [.lf (.string x.2)]]) (fun x => [[.lf (.bool (f x.1 x.2))]])
theorem ev_iHas : ∀ x, evFnX tab [] (cHas hasB) Try.f128 (body Try.f128) x := by
  rintro ⟨⟨lo, hi⟩, k⟩
  have fin : ∀ b, b = hasB ⟨lo, hi⟩ k → [[D.lf (.bool b)]] = [[D.lf (.bool (hasB ⟨lo, hi⟩ k))]] := fun b h => by rw [h]
  have eh : hasB ⟨lo, hi⟩ k = (!strLt k lo && (emp hi || strLt k hi)) := rfl
  conv => whnf
  refine br2 (fun h1 => ?_) (fun h1 => ?_)
  · replace h1 : (!strLt k lo) = true := h1
    conv => whnf
    refine br2 (fun h2 => ?_) (fun h2 => ?_)
    · replace h2 : emp hi = true := h2
      conv => whnf
      exact ⟨⟨rfl, fin _ (by rw [eh, h1, h2]; rfl)⟩⟩
    · replace h2 : emp hi = false := h2
      conv => whnf
      exact ⟨⟨rfl, fin _ (by rw [eh, h1, h2]; rfl)⟩⟩
  · replace h1 : (!strLt k lo) = false := h1
    conv => whnf
    exact ⟨⟨rfl, fin _ (by rw [eh, h1]; rfl)⟩⟩
theorem iHas_ok : FnOk Try.prog 128 (cHas hasB) := fnOk_of fun x => fnX_at tab_ok (SOk.nil) mixed (fn := Try.f128) (code := body Try.f128) ⟨Try.func128, rfl, by kernel_rfl, by kernel_rfl, by kernel_rfl, by kernel_rfl⟩ (ev_iHas x)
def rangeHasB (r : RngX) (k : ByteArray) : Bool := rangeOkB r.lo r.hi && keyOkB k && hasB r k
theorem ev_sRangeHas : ∀ x, evFnX tab [(176, cRangeOk), (142, cKeyOk)] (cHas rangeHasB) Try.f116 (body Try.f116) x := by
  rintro ⟨⟨lo, hi⟩, k⟩
  have fin : ∀ b, b = rangeHasB ⟨lo, hi⟩ k → [[D.lf (.bool b)]] = [[D.lf (.bool (rangeHasB ⟨lo, hi⟩ k))]] := fun b h => by rw [h]
  have eh : rangeHasB ⟨lo, hi⟩ k = (rangeOkB lo hi && keyOkB k && (!strLt k lo && (emp hi || strLt k hi))) := rfl
  have el : (strLt lo k || strEq lo k) = !strLt k lo := by rw [strLt_flip lo k, Bool.not_not]
  conv => whnf
  refine ⟨(lo, hi), rfl, ?_⟩
  rintro _ _ ⟨rfl, rfl⟩
  conv => whnf
  refine br2 (fun h1 => ?_) (fun h1 => ?_)
  · replace h1 : rangeOkB lo hi = true := h1
    conv => whnf
    refine ⟨k, rfl, ?_⟩
    rintro _ _ ⟨rfl, rfl⟩
    conv => whnf
    refine br2 (fun h2 => ?_) (fun h2 => ?_)
    · replace h2 : keyOkB k = true := h2
      conv => whnf
      refine br2 (fun h3 => ?_) (fun h3 => ?_)
      · replace h3 : (strLt lo k || strEq lo k) = true := h3
        rw [el] at h3
        conv => whnf
        refine br2 (fun h4 => ?_) (fun h4 => ?_)
        · replace h4 : emp hi = true := h4
          conv => whnf
          exact ⟨⟨rfl, fin _ (by rw [eh, h1, h2, h3, h4]; rfl)⟩⟩
        · replace h4 : emp hi = false := h4
          conv => whnf
          exact ⟨⟨rfl, fin _ (by rw [eh, h1, h2, h3, h4]; rfl)⟩⟩
      · replace h3 : (strLt lo k || strEq lo k) = false := h3
        rw [el] at h3
        conv => whnf
        exact ⟨⟨rfl, fin _ (by rw [eh, h1, h2, h3]; rfl)⟩⟩
    · replace h2 : keyOkB k = false := h2
      conv => whnf
      exact ⟨⟨rfl, fin _ (by rw [eh, h1, h2]; rfl)⟩⟩
  · replace h1 : rangeOkB lo hi = false := h1
    conv => whnf
    exact ⟨⟨rfl, fin _ (by rw [eh, h1]; rfl)⟩⟩
theorem sRangeHas_ok : FnOk Try.prog 116 (cHas rangeHasB) := fnOk_of fun x => fnX_at tab_ok (SOk.cons sRangeOk_ok (SOk.cons sKeyOk_ok SOk.nil)) mixed (fn := Try.f116) (code := body Try.f116) ⟨Try.func116, rfl, by kernel_rfl, by kernel_rfl, by kernel_rfl, by kernel_rfl⟩ (ev_sRangeHas x)
/-- What a scan takes, pair by pair. -/
def scanS (f : ByteArray → Bool) (most : Int) (out : List RngX) (p : RngX) : List RngX := if f p.lo && decide ((out.length : Int) < most) then out ++ [p] else out
def scanL (f : ByteArray → Bool) (most : Int) (back : Bool) (l : List RngX) : List RngX := (if back then l.reverse else l).foldl (scanS f most) []
theorem scanS_len (f : ByteArray → Bool) (most : Int) (out : List RngX) (p : RngX) : (scanS f most out p).length ≤ out.length + 1 := by
  unfold scanS; split <;> simp
theorem scanF_len (f : ByteArray → Bool) (most : Int) : ∀ (l out : List RngX), (l.foldl (scanS f most) out).length ≤ out.length + l.length
  | [], out => by simp
  | p :: l, out => by
    have h1 := scanF_len f most l (scanS f most out p)
    have h2 := scanS_len f most out p
    simp only [List.foldl_cons, List.length_cons]; omega
theorem scanF_take {f : ByteArray → Bool} {most : Int} {l : List RngX} {i : Nat} {p : RngX} (h : l[i]? = some p) : (l.take (i + 1)).foldl (scanS f most) [] = scanS f most ((l.take i).foldl (scanS f most) []) p := by
  rw [List.take_add_one, h, List.foldl_append]; rfl
theorem scanF_le (f : ByteArray → Bool) (most : Int) (l : List RngX) (i : Nat) : ((l.take i).foldl (scanS f most) []).length ≤ l.length := by
  have := scanF_len f most (l.take i) []
  simp at this; omega
theorem scanL_le (f : ByteArray → Bool) (most : Int) (back : Bool) (l : List RngX) : (scanL f most back l).length ≤ l.length := by
  have := scanF_len f most (if back then l.reverse else l) []
  unfold scanL
  cases back <;> simp at this ⊢ <;> exact this
def ordL (back : Bool) (l : List RngX) : List RngX := if back then l.reverse else l
theorem ordL_len (back : Bool) (l : List RngX) : (ordL back l).length = l.length := by cases back <;> simp [ordL]
theorem rev_at {l : List RngX} {i : Nat} (h : i < l.length) : l.reverse[i]? = l[l.length - 1 - i]? := List.getElem?_reverse h
structure ScanX where
  l : List RngX
  r : RngX
  most : Int
  back : Bool
  hl : l.length ≤ 1048576
theorem ev_scanned : ∀ x, evFnX tab [(1000002, cGh), (128, (cHas hasB))] (pureC ScanX [(.rd, false), (.rd, true), (.rd, false), (.rd, false)] [false] (fun x => [[.row 2 RngX.ds x.l], x.r.ds, [.lf (.int .i64 x.most)], [.lf (.bool x.back)]]) (fun x => [[.row 2 RngX.ds (scanL (hasB x.r) x.most x.back x.l)]])) Try.f119 (body Try.f119) x := by
  rintro ⟨l, r, most, back, hl⟩
  replace hl : l.length ≤ 1048576 := hl
  conv => whnf
  refine ⟨[.row 192], ?_⟩
  conv => whnf
  refine ⟨RngX, RngX.ds, [], fun _ => rfl, rfl, ?_⟩
  conv => whnf
  intro _
  conv => whnf
  let O : Nat → List RngX := fun i => ((ordL back l).take i).foldl (scanS (hasB r) most) []
  have hO : ∀ i, (O i).length ≤ 1048576 := fun i => Nat.le_trans (scanF_le _ _ _ _) (by rw [ordL_len]; exact hl)
  let S0 : Nat → Sl := fun i => [(15, .lf (.int .i64 i)), (14, .lf (.int .i64 l.length)), (9, .sl 192 none), (5, .pt 80 0 0), (3, .lf (.bool back)), (2, .lf (.int .i64 most)), (0, .sl 0 none)]
  let H0 : Nat → Hp := fun i => [(192, some (.row .own 2 RngX.ds (O i))), (80, some (.arr true 2 [[.lf (.string r.lo), .lf (.string r.hi)]])), (0, some (.row .lent 2 RngX.ds l))]
  refine ⟨fun m s h => ∃ i : Nat, i ≤ l.length ∧ m = l.length - i ∧ s = S0 i ∧ h = H0 i, l.length, [(192, 192), (80, 80), (0, 0)], S0 0, H0 0, ⟨rfl, ⟨rfl, rfl, rfl, rfl, rfl, rfl, rfl, trivial⟩, rfl, rfl, rfl, trivial⟩, ⟨0, by omega, rfl, rfl, rfl⟩, ?_⟩
  rintro m _ _ ⟨i, g1, rfl, rfl, rfl⟩
  have hs : ∀ y, (ordL back l)[i]? = some y → O (i + 1) = scanS (hasB r) most (O i) y := fun y hy => scanF_take hy
  have yes : ∀ y, hasB r y.lo = true → decide (((O i).length : Int) < most) = true → scanS (hasB r) most (O i) y = O i ++ [y] := fun y h1 h2 => by unfold scanS; rw [h1, h2]; rfl
  have no1 : ∀ y, hasB r y.lo = false → scanS (hasB r) most (O i) y = O i := fun y h1 => by unfold scanS; rw [h1]; rfl
  have no2 : ∀ y, decide (((O i).length : Int) < most) = false → scanS (hasB r) most (O i) y = O i := fun y h1 => by unfold scanS; rw [h1, Bool.and_false]; rfl
  have hlen := hO i
  have step : ∀ {s' : Sl} {h' : Hp} (ρ : List (Nat × Nat)), i < l.length → Le ρ (S0 (i + 1)) (H0 (i + 1)) s' h' → ∃ m' ρ s'' h'', m' < l.length - i ∧ Le ρ s'' h'' s' h' ∧ ∃ i, i ≤ l.length ∧ m' = l.length - i ∧ s'' = S0 i ∧ h'' = H0 i := fun ρ hi hle =>
    ⟨l.length - (i + 1), ρ, _, _, by omega, hle, i + 1, by omega, rfl, rfl, rfl⟩
  conv => whnf
  refine br2 (fun h5 => ?_) (fun h5 => ?_)
  · have hi : i < l.length := by have := of_decide_eq_true h5; omega
    obtain ⟨z, hz⟩ := getL hi
    have hinc := incI hi (show l.length ≤ 9223372036854775807 by omega)
    cases back with
    | false =>
      have hs1 := hs z hz
      conv => whnf
      refine ⟨Int.natCast_nonneg _, ltI hz, ?_⟩
      conv => whnf
      refine ex2 _ (nthI hz) ?_
      conv => whnf
      refine ⟨(r, z.lo), rfl, ?_⟩
      rintro _ _ ⟨rfl, rfl⟩
      conv => whnf
      refine br2 (fun h6 => ?_) (fun h6 => ?_)
      · conv => whnf
        intro _
        conv => whnf
        refine br2 (fun h7 => ?_) (fun h7 => ?_)
        · conv => whnf
          refine ⟨[z], rfl, ?_, ?_⟩
          · show (O i).length + 1 ≤ 4294967296; omega
          conv => whnf
          refine step [(704, 192), (80, 80), (0, 0)] hi ⟨rfl, ⟨hinc, rfl, rfl, rfl, rfl, rfl, rfl, trivial⟩, ?_, rfl, rfl, trivial⟩
          show _ = some (Ob.row Kind.own 2 RngX.ds (O (i + 1)))
          rw [hs1, yes z h6 h7]; rfl
        · conv => whnf
          refine step [(192, 192), (80, 80), (0, 0)] hi ⟨rfl, ⟨hinc, rfl, rfl, rfl, rfl, rfl, rfl, trivial⟩, ?_, rfl, rfl, trivial⟩
          show _ = some (Ob.row Kind.own 2 RngX.ds (O (i + 1)))
          rw [hs1, no2 z h7]; rfl
      · conv => whnf
        refine step [(192, 192), (80, 80), (0, 0)] hi ⟨rfl, ⟨hinc, rfl, rfl, rfl, rfl, rfl, rfl, trivial⟩, ?_, rfl, rfl, trivial⟩
        show _ = some (Ob.row Kind.own 2 RngX.ds (O (i + 1)))
        rw [hs1, no1 z h6]; rfl
    | true =>
      obtain ⟨y, hy⟩ := getL (l := l) (j := l.length - 1 - i) (by omega)
      have hs1 := hs y (by show l.reverse[i]? = some y; rw [rev_at hi]; exact hy)
      have hw : IntKind.i64.wrap (IntKind.i64.wrap ((l.length : Int) - 1) - (i : Int)) = ((l.length - 1 - i : Nat) : Int) := by
        rw [w64 (n := (l.length : Int) - 1) (by omega) (by omega), w64 (by omega) (by omega)]; omega
      conv => whnf
      refine ⟨Int.natCast_nonneg _, ltI hz, ?_⟩
      conv => whnf
      refine ex2 _ (nthI hz) ?_
      conv => whnf
      intro _
      conv => whnf
      refine ⟨(ixE hw hy).1, (ixE hw hy).2, ?_⟩
      conv => whnf
      refine ex2 _ (nthE hw hy) ?_
      conv => whnf
      refine ⟨(r, y.lo), rfl, ?_⟩
      rintro _ _ ⟨rfl, rfl⟩
      conv => whnf
      refine br2 (fun h6 => ?_) (fun h6 => ?_)
      · conv => whnf
        intro _
        conv => whnf
        refine br2 (fun h7 => ?_) (fun h7 => ?_)
        · conv => whnf
          refine ⟨[y], rfl, ?_, ?_⟩
          · show (O i).length + 1 ≤ 4294967296; omega
          conv => whnf
          refine step [(704, 192), (80, 80), (0, 0)] hi ⟨rfl, ⟨hinc, rfl, rfl, rfl, rfl, rfl, rfl, trivial⟩, ?_, rfl, rfl, trivial⟩
          show _ = some (Ob.row Kind.own 2 RngX.ds (O (i + 1)))
          rw [hs1, yes y h6 h7]; rfl
        · conv => whnf
          refine step [(192, 192), (80, 80), (0, 0)] hi ⟨rfl, ⟨hinc, rfl, rfl, rfl, rfl, rfl, rfl, trivial⟩, ?_, rfl, rfl, trivial⟩
          show _ = some (Ob.row Kind.own 2 RngX.ds (O (i + 1)))
          rw [hs1, no2 y h7]; rfl
      · conv => whnf
        refine step [(192, 192), (80, 80), (0, 0)] hi ⟨rfl, ⟨hinc, rfl, rfl, rfl, rfl, rfl, rfl, trivial⟩, ?_, rfl, rfl, trivial⟩
        show _ = some (Ob.row Kind.own 2 RngX.ds (O (i + 1)))
        rw [hs1, no1 y h6]; rfl
  · have hi : i = l.length := by have := of_decide_eq_false h5; omega
    subst hi
    conv => whnf
    refine ⟨⟨rfl, ?_⟩⟩
    show [[D.row 2 RngX.ds (O l.length)]] = [[D.row 2 RngX.ds (scanL (hasB r) most back l)]]
    simp only [O]
    rw [List.take_of_length_le (by rw [ordL_len]; omega)]
    rfl
theorem scanned_ok : FnOk Try.prog 119 (pureC ScanX [(.rd, false), (.rd, true), (.rd, false), (.rd, false)] [false] (fun x => [[.row 2 RngX.ds x.l], x.r.ds, [.lf (.int .i64 x.most)], [.lf (.bool x.back)]]) (fun x => [[.row 2 RngX.ds (scanL (hasB x.r) x.most x.back x.l)]])) := fnOk_of fun x => fnX_at tab_ok (SOk.cons gh_ok (SOk.cons iHas_ok SOk.nil)) mixed (fn := Try.f119) (code := body Try.f119) ⟨Try.func119, rfl, by kernel_rfl, by kernel_rfl, by kernel_rfl, by kernel_rfl⟩ (ev_scanned x)
/-- A scan of a tree. -/
structure TScanX where
  t : TreeX
  r : RngX
  most : Int
  back : Bool
structure ScanR (N : List NodeX) (r : RngX) (most : Int) (back : Bool) (l : List RngX) : Prop where
  yes : ∀ o, Vo o → N = layO o → l = scanL (rangeHasB r) most back (allO o)
  no : ¬ TreeP N → l = []
def cTreeScan : Con := relC TScanX [(.rd, true), (.rd, true), (.rd, false), (.rd, false)] [false] (fun x => [[.row 3 NodeX.ds x.t.N], x.r.ds, [.lf (.int .i64 x.most)], [.lf (.bool x.back)]]) (fun x r => ∃ l, r = [[.row 2 RngX.ds l]] ∧ ScanR x.t.N x.r x.most x.back l)
theorem scanF_congr {f g : ByteArray → Bool} {most : Int} : ∀ {l : List RngX} {out : List RngX}, (∀ p ∈ l, f p.lo = g p.lo) → l.foldl (scanS f most) out = l.foldl (scanS g most) out
  | [], out, _ => rfl
  | p :: l, out, h => by
    simp only [List.foldl_cons]
    rw [show scanS f most out p = scanS g most out p by unfold scanS; rw [h p (by simp)]]
    exact scanF_congr fun q hq => h q (by simp [hq])
theorem scanL_congr {f g : ByteArray → Bool} {most : Int} {back : Bool} {l : List RngX} (h : ∀ p ∈ l, f p.lo = g p.lo) : scanL f most back l = scanL g most back l := by
  unfold scanL
  refine scanF_congr fun p hp => h p ?_
  cases back <;> simpa using hp
theorem scanL_none {most : Int} {back : Bool} {l : List RngX} {f : ByteArray → Bool} (h : ∀ p ∈ l, f p.lo = false) : scanL f most back l = [] := by
  have key : ∀ (m : List RngX), (∀ p ∈ m, f p.lo = false) → m.foldl (scanS f most) [] = [] := by
    intro m
    induction m with
    | nil => intro _; rfl
    | cons p m ih =>
      intro h
      simp only [List.foldl_cons]
      rw [show scanS f most [] p = [] by unfold scanS; rw [h p (by simp)]; rfl]
      exact ih fun q hq => h q (by simp [hq])
  unfold scanL
  refine key _ fun p hp => h p ?_
  cases back <;> simpa using hp
theorem Vo.key {o : Option Tw} (h : Vo o) {p : RngX} (hp : p ∈ allO o) : keyOkB p.lo = true := by
  have := h.ok.ok p hp
  simp only [kvOkB, Bool.and_eq_true] at this
  exact this.1
theorem ev_iTreeScan : ∀ x, evFnX tab [(118, cRangeOk), (53, cTreeAll), (119, (pureC ScanX [(.rd, false), (.rd, true), (.rd, false), (.rd, false)] [false] (fun x => [[.row 2 RngX.ds x.l], x.r.ds, [.lf (.int .i64 x.most)], [.lf (.bool x.back)]]) (fun x => [[.row 2 RngX.ds (scanL (hasB x.r) x.most x.back x.l)]])))] cTreeScan Try.f44 (body Try.f44) x := by
  rintro ⟨⟨N, f, hf, hN, hp⟩, r, most, back⟩
  conv => whnf
  refine ⟨(r.lo, r.hi), rfl, ?_⟩
  rintro _ _ ⟨rfl, rfl⟩
  conv => whnf
  refine br2 (fun h1 => ?_) (fun h1 => ?_)
  · replace h1 : (!rangeOkB r.lo r.hi) = true := h1
    rw [Bool.not_eq_true'] at h1
    conv => whnf
    refine ⟨RngX, RngX.ds, [], fun _ => rfl, rfl, ?_⟩
    conv => whnf
    refine ⟨⟨rfl, [], rfl, fun o ho e => ?_, fun _ => rfl⟩⟩
    exact (scanL_none fun p _ => by show rangeHasB r p.lo = false; unfold rangeHasB; rw [h1]; rfl).symm
  · replace h1 : (!rangeOkB r.lo r.hi) = false := h1
    rw [Bool.not_eq_false'] at h1
    conv => whnf
    refine ⟨⟨N, f, hf, hN, hp⟩, rfl, ?_⟩
    rintro _ _ ⟨rfl, l, rfl, al⟩
    replace al : AllR N l := al
    have hl : l.length ≤ 1048576 := by
      by_cases hT : TreeP N
      · obtain ⟨o, ho, e⟩ := hT
        rw [al.yes o ho e]
        have := ho.ok.len
        omega
      · rw [al.no hT]; simp
    conv => whnf
    repeat ((first | refine rc_i rfl ?_ | refine rc_i (fun _ => rfl) ?_); conv => whnf)
    refine ⟨⟨l, r, most, back, hl⟩, rfl, ?_⟩
    rintro _ _ ⟨rfl, rfl⟩
    conv => whnf
    repeat ((first | refine rc_i rfl ?_ | refine rc_i (fun _ => rfl) ?_); conv => whnf)
    refine ⟨⟨rfl, _, rfl, fun o ho e => ?_, fun h => ?_⟩⟩
    · show scanL (hasB r) most back l = scanL (rangeHasB r) most back (allO o)
      rw [al.yes o ho e]
      refine scanL_congr fun p hp => ?_
      unfold rangeHasB
      rw [h1, ho.key hp]; rfl
    · show scanL (hasB r) most back l = []
      rw [al.no h]
      cases back <;> rfl
theorem iTreeScan_ok : FnOk Try.prog 44 cTreeScan := fnOk_of fun x => fnX_at tab_ok (SOk.cons iRangeOk_ok (SOk.cons iTreeAll_ok (SOk.cons scanned_ok SOk.nil))) mixed (fn := Try.f44) (code := body Try.f44) ⟨Try.func44, rfl, by kernel_rfl, by kernel_rfl, by kernel_rfl, by kernel_rfl⟩ (ev_iTreeScan x)
theorem ev_sTreeScan : ∀ x, evFnX tab [(1000002, cGh), (54, cTreeAll), (116, (cHas rangeHasB))] cTreeScan Try.f41 (body Try.f41) x := by
  rintro ⟨⟨N, f, hf, hN, hp⟩, r, most, back⟩
  conv => whnf
  refine ⟨[.row 208], ?_⟩
  conv => whnf
  refine ⟨RngX, RngX.ds, [], fun _ => rfl, rfl, ?_⟩
  conv => whnf
  refine ⟨⟨N, f, hf, hN, hp⟩, rfl, ?_⟩
  rintro _ _ ⟨rfl, l, rfl, al⟩
  replace al : AllR N l := al
  have hl : l.length ≤ 1048576 := by
    by_cases hT : TreeP N
    · obtain ⟨o, ho, e⟩ := hT
      rw [al.yes o ho e]
      have := ho.ok.len
      omega
    · rw [al.no hT]; simp
  conv => whnf
  intro _
  conv => whnf
  let O : Nat → List RngX := fun i => ((ordL back l).take i).foldl (scanS (rangeHasB r) most) []
  have hO : ∀ i, (O i).length ≤ 1048576 := fun i => Nat.le_trans (scanF_le _ _ _ _) (by rw [ordL_len]; exact hl)
  let S0 : Nat → Sl := fun i => [(18, .lf (.int .i64 i)), (17, .lf (.int .i64 l.length)), (9, .sl 208 none), (5, .pt 80 0 0), (3, .lf (.bool back)), (2, .lf (.int .i64 most)), (10, .sl 240 none)]
  let H0 : Nat → Hp := fun i => [(208, some (.row .own 2 RngX.ds (O i))), (80, some (.arr true 2 [[.lf (.string r.lo), .lf (.string r.hi)]])), (240, some (.row .own 2 RngX.ds l))]
  refine ⟨fun m s h => ∃ i : Nat, i ≤ l.length ∧ m = l.length - i ∧ s = S0 i ∧ h = H0 i, l.length, [(208, 208), (80, 80), (240, 240)], S0 0, H0 0, ⟨rfl, ⟨rfl, rfl, rfl, rfl, rfl, rfl, rfl, trivial⟩, rfl, rfl, rfl, trivial⟩, ⟨0, by omega, rfl, rfl, rfl⟩, ?_⟩
  rintro m _ _ ⟨i, g1, rfl, rfl, rfl⟩
  have hs : ∀ y, (ordL back l)[i]? = some y → O (i + 1) = scanS (rangeHasB r) most (O i) y := fun y hy => scanF_take hy
  have yes : ∀ y, rangeHasB r y.lo = true → decide (((O i).length : Int) < most) = true → scanS (rangeHasB r) most (O i) y = O i ++ [y] := fun y h1 h2 => by unfold scanS; rw [h1, h2]; rfl
  have no1 : ∀ y, rangeHasB r y.lo = false → scanS (rangeHasB r) most (O i) y = O i := fun y h1 => by unfold scanS; rw [h1]; rfl
  have no2 : ∀ y, decide (((O i).length : Int) < most) = false → scanS (rangeHasB r) most (O i) y = O i := fun y h1 => by unfold scanS; rw [h1, Bool.and_false]; rfl
  have hlen := hO i
  have step : ∀ {s' : Sl} {h' : Hp} (ρ : List (Nat × Nat)), i < l.length → Le ρ (S0 (i + 1)) (H0 (i + 1)) s' h' → ∃ m' ρ s'' h'', m' < l.length - i ∧ Le ρ s'' h'' s' h' ∧ ∃ i, i ≤ l.length ∧ m' = l.length - i ∧ s'' = S0 i ∧ h'' = H0 i := fun ρ hi hle =>
    ⟨l.length - (i + 1), ρ, _, _, by omega, hle, i + 1, by omega, rfl, rfl, rfl⟩
  conv => whnf
  refine br2 (fun h5 => ?_) (fun h5 => ?_)
  · have hi : i < l.length := by have := of_decide_eq_true h5; omega
    obtain ⟨z, hz⟩ := getL hi
    have hinc := incI hi (show l.length ≤ 9223372036854775807 by omega)
    cases back with
    | false =>
      have hs1 := hs z hz
      conv => whnf
      refine ⟨Int.natCast_nonneg _, ltI hz, ?_⟩
      conv => whnf
      refine ex2 _ (nthI hz) ?_
      conv => whnf
      intro _
      conv => whnf
      refine br2 (fun h7 => ?_) (fun h7 => ?_)
      · conv => whnf
        refine ⟨(r, z.lo), rfl, ?_⟩
        rintro _ _ ⟨rfl, rfl⟩
        conv => whnf
        refine br2 (fun h6 => ?_) (fun h6 => ?_)
        · conv => whnf
          refine ⟨[z], rfl, ?_, ?_⟩
          · show (O i).length + 1 ≤ 4294967296; omega
          conv => whnf
          refine step [(752, 208), (80, 80), (240, 240)] hi ⟨rfl, ⟨hinc, rfl, rfl, rfl, rfl, rfl, rfl, trivial⟩, ?_, rfl, rfl, trivial⟩
          show _ = some (Ob.row Kind.own 2 RngX.ds (O (i + 1)))
          rw [hs1, yes z h6 h7]; rfl
        · conv => whnf
          refine step [(208, 208), (80, 80), (240, 240)] hi ⟨rfl, ⟨hinc, rfl, rfl, rfl, rfl, rfl, rfl, trivial⟩, ?_, rfl, rfl, trivial⟩
          show _ = some (Ob.row Kind.own 2 RngX.ds (O (i + 1)))
          rw [hs1, no1 z h6]; rfl
      · conv => whnf
        refine step [(208, 208), (80, 80), (240, 240)] hi ⟨rfl, ⟨hinc, rfl, rfl, rfl, rfl, rfl, rfl, trivial⟩, ?_, rfl, rfl, trivial⟩
        show _ = some (Ob.row Kind.own 2 RngX.ds (O (i + 1)))
        rw [hs1, no2 z h7]; rfl
    | true =>
      obtain ⟨y, hy⟩ := getL (l := l) (j := l.length - 1 - i) (by omega)
      have hs1 := hs y (by show l.reverse[i]? = some y; rw [rev_at hi]; exact hy)
      have hw : IntKind.i64.wrap (IntKind.i64.wrap ((l.length : Int) - 1) - (i : Int)) = ((l.length - 1 - i : Nat) : Int) := by
        rw [w64 (n := (l.length : Int) - 1) (by omega) (by omega), w64 (by omega) (by omega)]; omega
      conv => whnf
      refine ⟨Int.natCast_nonneg _, ltI hz, ?_⟩
      conv => whnf
      refine ex2 _ (nthI hz) ?_
      conv => whnf
      intro _
      conv => whnf
      refine ⟨(ixE hw hy).1, (ixE hw hy).2, ?_⟩
      conv => whnf
      refine ex2 _ (nthE hw hy) ?_
      conv => whnf
      intro _
      conv => whnf
      refine br2 (fun h7 => ?_) (fun h7 => ?_)
      · conv => whnf
        refine ⟨(r, y.lo), rfl, ?_⟩
        rintro _ _ ⟨rfl, rfl⟩
        conv => whnf
        refine br2 (fun h6 => ?_) (fun h6 => ?_)
        · conv => whnf
          refine ⟨[y], rfl, ?_, ?_⟩
          · show (O i).length + 1 ≤ 4294967296; omega
          conv => whnf
          refine step [(752, 208), (80, 80), (240, 240)] hi ⟨rfl, ⟨hinc, rfl, rfl, rfl, rfl, rfl, rfl, trivial⟩, ?_, rfl, rfl, trivial⟩
          show _ = some (Ob.row Kind.own 2 RngX.ds (O (i + 1)))
          rw [hs1, yes y h6 h7]; rfl
        · conv => whnf
          refine step [(208, 208), (80, 80), (240, 240)] hi ⟨rfl, ⟨hinc, rfl, rfl, rfl, rfl, rfl, rfl, trivial⟩, ?_, rfl, rfl, trivial⟩
          show _ = some (Ob.row Kind.own 2 RngX.ds (O (i + 1)))
          rw [hs1, no1 y h6]; rfl
      · conv => whnf
        refine step [(208, 208), (80, 80), (240, 240)] hi ⟨rfl, ⟨hinc, rfl, rfl, rfl, rfl, rfl, rfl, trivial⟩, ?_, rfl, rfl, trivial⟩
        show _ = some (Ob.row Kind.own 2 RngX.ds (O (i + 1)))
        rw [hs1, no2 y h7]; rfl
  · have hi : i = l.length := by have := of_decide_eq_false h5; omega
    subst hi
    have hOl : O l.length = scanL (rangeHasB r) most back l := by
      simp only [O]
      rw [List.take_of_length_le (by rw [ordL_len]; omega)]
      rfl
    conv => whnf
    refine ⟨⟨rfl, O l.length, rfl, fun o ho e => ?_, fun h => ?_⟩⟩
    · show O l.length = scanL (rangeHasB r) most back (allO o)
      rw [hOl, al.yes o ho e]
    · rw [hOl, al.no h]
      cases back <;> rfl
theorem sTreeScan_ok : FnOk Try.prog 41 cTreeScan := fnOk_of fun x => fnX_at tab_ok (SOk.cons gh_ok (SOk.cons sTreeAll_ok (SOk.cons sRangeHas_ok SOk.nil))) mixed (fn := Try.f41) (code := body Try.f41) ⟨Try.func41, rfl, by kernel_rfl, by kernel_rfl, by kernel_rfl, by kernel_rfl⟩ (ev_sTreeScan x)
end Go.Vm
namespace Go.Vm
open Go.Proofs
set_option maxRecDepth 100000
set_option linter.unusedVariables false
set_option linter.unusedSimpArgs false

theorem scan_same {N : List NodeX} {r : RngX} {m : Int} {b : Bool} {l l' : List RngX} (h : ScanR N r m b l) (h' : ScanR N r m b l') : l = l' := by
  by_cases hT : TreeP N
  · obtain ⟨o, ho, e⟩ := hT
    exact (h.yes o ho e).trans (h'.yes o ho e).symm
  · exact (h.no hT).trans (h'.no hT).symm
theorem ScanR.len {N : List NodeX} {r : RngX} {m : Int} {b : Bool} {l : List RngX} (h : ScanR N r m b l) (hN : N.length ≤ 1048576) : l.length ≤ 1048576 := by
  by_cases hT : TreeP N
  · obtain ⟨o, ho, e⟩ := hT
    rw [h.yes o ho e]
    have := ho.ok.len
    have := scanL_le (rangeHasB r) m b (allO o)
    omega
  · rw [h.no hT]; simp
structure TScanZ where
  N : List NodeX
  r : RngX
  m : Int
  b : Bool
  hN : nodesB0 N
  hr : rngB0 r
theorem ev_lawTreeScan : ∀ x, evFnX tab [(39, (cSz treeDs nodesB0 nodesB)), (40, (cSz RngX.ds rngB0 rngB)), (42, (pureC NodesY [(.rd, true)] [true] (fun x => [treeDs x.l]) (fun x => [treeDs x.l]))), (43, (cCopy RngX.ds)), (41, cTreeScan), (44, cTreeScan), (45, (cEqS 2 RngX.ds)), (46, (cEq treeDs)), (47, (cMarkN true)), (48, (cMarkS 2 RngX.ds markP 2)), (49, (cHeldS 2 RngX.ds markP 2))] (pureC TScanZ [(.rd, true), (.rd, true), (.rd, false), (.rd, false)] [false] (fun x => [treeDs x.N, x.r.ds, [.lf (.int .i64 x.m)], [.lf (.bool x.b)]]) (fun _ => [[.lf (.bool true)]])) Try.f7 (body Try.f7) x := by
  rintro ⟨N, r, m, b, hN, hr⟩
  conv => whnf
  refine ⟨⟨N, 1048576, by omega, by omega, hN⟩, rfl, ?_⟩
  rintro _ _ ⟨rfl, k, rfl, k1, k2, k3⟩
  conv => whnf
  refine br2 (fun h3 => ?_) (fun h3 => ?_)
  · conv => whnf
    exact ⟨⟨rfl, rfl⟩⟩
  have h3' := of_decide_eq_false h3
  replace k2 : k ≤ 1048576 := k2
  conv => whnf
  obtain ⟨hl, hb⟩ := k3 (by omega)
  replace hl : N.length ≤ 1048576 := hl
  replace hb : ∀ n ∈ N, nodeB n := hb
  refine ⟨⟨r, k, by omega, by omega, hr⟩, rfl, ?_⟩
  rintro _ _ ⟨rfl, k', rfl, _, _, _⟩
  conv => whnf
  refine br2 (fun h4 => ?_) (fun h4 => ?_)
  · conv => whnf
    exact ⟨⟨rfl, rfl⟩⟩
  conv => whnf
  have hp : ∀ n ∈ N, n.ps.length ≤ 1048576 := fun n hn => (hb n hn).1
  refine ⟨⟨N, hl, hb⟩, rfl, ?_⟩
  rintro _ _ ⟨rfl, rfl⟩
  conv => whnf
  repeat ((first | refine rc_i rfl ?_ | refine rc_i (fun _ => rfl) ?_); conv => whnf)
  refine ⟨r, rfl, ?_⟩
  rintro _ _ ⟨rfl, rfl⟩
  conv => whnf
  repeat ((first | refine rc_i rfl ?_ | refine rc_i (fun _ => rfl) ?_); conv => whnf)
  refine ⟨⟨⟨N, N.length, Nat.le_refl _, hl, hp⟩, r, m, b⟩, rfl, ?_⟩
  rintro _ _ ⟨rfl, l, rfl, al⟩
  conv => whnf
  replace al : ScanR N r m b l := al
  have hll := al.len hl
  have hl0 : (!eqX l l) = false := by rw [eqX_refl]; rfl
  have hN0 : (!eqX N N) = false := by rw [eqX_refl]; rfl
  repeat ((first | refine rc_i rfl ?_ | refine rc_i (fun _ => rfl) ?_); conv => whnf)
  refine ⟨⟨N, hl, hb⟩, rfl, ?_⟩
  rintro _ _ ⟨rfl, rfl⟩
  conv => whnf
  repeat ((first | refine rc_i rfl ?_ | refine rc_i (fun _ => rfl) ?_); conv => whnf)
  refine ⟨r, rfl, ?_⟩
  rintro _ _ ⟨rfl, rfl⟩
  conv => whnf
  repeat ((first | refine rc_i rfl ?_ | refine rc_i (fun _ => rfl) ?_); conv => whnf)
  refine ⟨⟨⟨N, N.length, Nat.le_refl _, hl, hp⟩, r, m, b⟩, rfl, ?_⟩
  rintro _ _ ⟨rfl, l', rfl, al'⟩
  conv => whnf
  obtain rfl := scan_same al al'
  clear al'
  repeat ((first | refine rc_i rfl ?_ | refine rc_i (fun _ => rfl) ?_); conv => whnf)
  refine ⟨(l, l), rfl, ?_⟩
  rintro _ _ ⟨rfl, rfl⟩
  conv => whnf
  repeat ((first | refine rc_i rfl ?_ | refine rc_i (fun _ => rfl) ?_); conv => whnf)
  refine br2 (fun h5 => ?_) (fun h5 => ?_)
  · exact absurd (hl0.symm.trans h5) (by simp)
  conv => whnf
  refine ⟨⟨N, hl, hb⟩, rfl, ?_⟩
  rintro _ _ ⟨rfl, rfl⟩
  conv => whnf
  repeat ((first | refine rc_i rfl ?_ | refine rc_i (fun _ => rfl) ?_); conv => whnf)
  refine ⟨(N, N), rfl, ?_⟩
  rintro _ _ ⟨rfl, rfl⟩
  conv => whnf
  repeat ((first | refine rc_i rfl ?_ | refine rc_i (fun _ => rfl) ?_); conv => whnf)
  refine br2 (fun h5 => ?_) (fun h5 => ?_)
  · exact absurd (hN0.symm.trans h5) (by simp)
  conv => whnf
  have hW := nodesW_le hb
  have hW0 := nodesW_pos N
  refine ⟨⟨N, 1, by omega, by omega, hl, hb⟩, rfl, ?_⟩
  rintro _ _ ⟨rfl, rfl⟩
  conv => whnf
  refine br2 (fun h6 => ?_) (fun h6 => ?_)
  · exfalso
    have : 1 + nodesW N < 0 := of_decide_eq_true h6
    omega
  conv => whnf
  refine ⟨(l, l), rfl, ?_⟩
  rintro _ _ ⟨rfl, rfl⟩
  conv => whnf
  repeat ((first | refine rc_i rfl ?_ | refine rc_i (fun _ => rfl) ?_); conv => whnf)
  refine br2 (fun h5 => ?_) (fun h5 => ?_)
  · exact absurd (hl0.symm.trans h5) (by simp)
  conv => whnf
  refine ⟨⟨⟨l, 1, by omega, by omega⟩, hll⟩, rfl, ?_⟩
  rintro _ _ ⟨rfl, rfl⟩
  conv => whnf
  refine ⟨⟨⟨l.length, 1, by omega, by omega⟩, hll⟩, rfl, ?_⟩
  rintro _ _ ⟨rfl, rfl⟩
  conv => whnf
  refine br2 (fun h7 => ?_) (fun h7 => ?_)
  · exfalso
    replace h7 : ((1 + 2 * (l.length : Int)) != (1 + 2 * (l.length : Int))) = true := h7
    simp at h7
  conv => whnf
  repeat ((first | refine rc_i rfl ?_ | refine rc_i (fun _ => rfl) ?_); conv => whnf)
  refine ⟨⟨N, hl, hb⟩, rfl, ?_⟩
  rintro _ _ ⟨rfl, rfl⟩
  conv => whnf
  repeat ((first | refine rc_i rfl ?_ | refine rc_i (fun _ => rfl) ?_); conv => whnf)
  refine ⟨r, rfl, ?_⟩
  rintro _ _ ⟨rfl, rfl⟩
  conv => whnf
  repeat ((first | refine rc_i rfl ?_ | refine rc_i (fun _ => rfl) ?_); conv => whnf)
  refine ⟨⟨⟨N, N.length, Nat.le_refl _, hl, hp⟩, r, m, b⟩, rfl, ?_⟩
  rintro _ _ ⟨rfl, l', rfl, al'⟩
  conv => whnf
  obtain rfl := scan_same al al'
  clear al'
  repeat ((first | refine rc_i rfl ?_ | refine rc_i (fun _ => rfl) ?_); conv => whnf)
  refine ⟨(l, l), rfl, ?_⟩
  rintro _ _ ⟨rfl, rfl⟩
  conv => whnf
  repeat ((first | refine rc_i rfl ?_ | refine rc_i (fun _ => rfl) ?_); conv => whnf)
  refine br2 (fun h5 => ?_) (fun h5 => ?_)
  · exact absurd (hl0.symm.trans h5) (by simp)
  conv => whnf
  refine ⟨⟨⟨l.length, 1, by omega, by omega⟩, hll⟩, rfl, ?_⟩
  rintro _ _ ⟨rfl, rfl⟩
  conv => whnf
  refine br2 (fun h7 => ?_) (fun h7 => ?_)
  · exfalso
    replace h7 : ((1 + 2 * (l.length : Int)) != (1 + 2 * (l.length : Int))) = true := h7
    simp at h7
  conv => whnf
  exact ⟨⟨rfl, rfl⟩⟩
theorem lawTreeScan_ok : FnOk Try.prog 7 (pureC TScanZ [(.rd, true), (.rd, true), (.rd, false), (.rd, false)] [false] (fun x => [treeDs x.N, x.r.ds, [.lf (.int .i64 x.m)], [.lf (.bool x.b)]]) (fun _ => [[.lf (.bool true)]])) := fnOk_of fun x => fnX_at tab_ok (SOk.cons szTree_ok (SOk.cons szRange_ok (SOk.cons toTree_ok (SOk.cons toRange_ok (SOk.cons sTreeScan_ok (SOk.cons iTreeScan_ok (SOk.cons eqPairS_ok (SOk.cons eqTree_ok (SOk.cons markTree_ok (SOk.cons markPairS_ok (SOk.cons heldPairS_ok SOk.nil))))))))))) mixed (fn := Try.f7) (code := body Try.f7) ⟨Try.func7, rfl, by kernel_rfl, by kernel_rfl, by kernel_rfl, by kernel_rfl⟩ (ev_lawTreeScan x)
end Go.Vm
