/- The law FnBoth in plain Lean: a key is in what two ranges have in common just if it is in both, for whatever a draw makes. Only the printed size bounds are asked. -/
import Derived.Test.YthoiahaedhnigaaPFnBothx5
import Derived.Lib.Strings
namespace Go.Proofs.Ythoiahaedhnigaa.Pure
set_option linter.unusedVariables false
set_option linter.unusedSimpArgs false
open Go.RowKit Go.Proofs.Ythoiahaedhnigaa.PFnBoth Go.Proofs.YthoiahaedhnigaaW.PrintWords Go.Proofs.YthoiahaedhnigaaW.PrintLast Go.Proofs.YthoiahaedhnigaaW.PrintMore

/-! numbers' texts -/
def numText (n : Nat) : List UInt8 := if n < 10 then [UInt8.ofNat (48 + n)] else numText (n / 10) ++ [UInt8.ofNat (48 + n % 10)]
termination_by n
decreasing_by omega

def mkB (l : List UInt8) : ByteArray := ⟨l.toArray⟩
theorem mkB_append (a b : List UInt8) : mkB a ++ mkB b = mkB (a ++ b) := by
  apply ByteArray.ext
  simp [mkB, ByteArray.data_append]
theorem mkB_size (a : List UInt8) : (mkB a).size = a.length := by simp [mkB, ByteArray.size]
theorem mkB_of (s : ByteArray) : s = mkB s.data.toList := by
  apply ByteArray.ext
  simp [mkB]

theorem numText_small {n : Nat} (h : n < 10) : numText n = [UInt8.ofNat (48 + n)] := by rw [numText, if_pos h]
theorem numText_big {n : Nat} (h : ¬ n < 10) : numText n = numText (n / 10) ++ [UInt8.ofNat (48 + n % 10)] := by rw [numText, if_neg h]
theorem numText_len (k : Nat) : ∀ n : Nat, n < 10 ^ (k + 1) → (numText n).length ≤ k + 1 := by
  induction k with
  | zero => intro n hn; rw [numText_small (by simpa using hn)]; simp
  | succ k ih =>
    intro n hn
    by_cases h : n < 10
    · rw [numText_small h]; simp
    · rw [numText_big h, List.length_append, List.length_singleton]
      have := ih (n / 10) (by rw [Nat.pow_succ] at hn; omega)
      omega

theorem digit_one (d : Nat) (h : d < 10) : strOfNums [(wrap64 (48 + (d : Int))) % 256] = mkB [UInt8.ofNat (48 + d)] := by
  have e : wrap64 (48 + (d : Int)) % 256 = ((48 + d : Nat) : Int) := by unfold wrap64; omega
  rw [e]
  rfl
theorem digit_mod (n : Nat) : strOfNums [(wrap64 (48 + Int.tmod (n : Int) 10)) % 256] = mkB [UInt8.ofNat (48 + n % 10)] := by
  have e : Int.tmod (n : Int) 10 = ((n % 10 : Nat) : Int) := rfl
  rw [e, digit_one _ (by omega)]
theorem tdiv_ten (n : Nat) (h : n ≤ 1099511627775) : wrap64 (Int.tdiv (n : Int) 10) = ((n / 10 : Nat) : Int) := by
  have e : Int.tdiv (n : Int) 10 = ((n / 10 : Nat) : Int) := rfl
  rw [e]
  unfold wrap64
  omega


theorem spec_num (k : Nat) : ∀ n : Nat, n < 10 ^ (k + 1) → n ≤ 1099511627775 → k ≤ 100 → spec_NumText.f (k + 1) (n : Int) = some (mkB (numText n)) := by
  induction k with
  | zero =>
    intro n hn hm _
    have h10 : n < 10 := by simpa using hn
    simp only [spec_NumText.f, spec_l01Num.f]
    rw [if_pos (by omega : (n : Int) ≥ 0)]
    simp only [Option.bind_some]
    rw [if_pos (by simp; omega), if_pos (by omega), digit_one n h10, numText_small h10]
  | succ k ih =>
    intro n hn hm hk
    rw [spec_NumText.f, spec_l01Num.f]
    rw [if_pos (by omega : (n : Int) ≥ 0)]
    simp only [Option.bind_some]
    rw [if_pos (by simp; omega)]
    by_cases h10 : n < 10
    · rw [if_pos (by omega), digit_one n h10, numText_small h10]
    · rw [if_neg (by omega), tdiv_ten n hm, ih (n / 10) (by rw [Nat.pow_succ] at hn; omega) (by omega) (by omega)]
      simp only [Option.bind_some]
      have hl := numText_len k (n / 10) (by rw [Nat.pow_succ] at hn; omega)
      rw [digit_mod, mkB_size, mkB_size, if_pos (by simp; omega), mkB_append, ← numText_big h10]

theorem spec_numText (n : Nat) (hm : n ≤ 1099511627775) : spec_NumText.f 14 (n : Int) = some (mkB (numText n)) := spec_num 13 n (by omega) hm (by omega)

/-! the cursor of a draw -/
def Cur (s : List Int) (i : Int) : Prop := 0 ≤ i ∧ i ≤ s.length
theorem and255 (x : Int) : 0 ≤ Go.bits .and .i64 x 255 ∧ Go.bits .and .i64 x 255 ≤ 255 := by
  have e : (BitVec.ofInt 64 255).toNat = 255 := by decide
  have h : ((BitVec.ofInt 64 x &&& BitVec.ofInt 64 255).toNat : Nat) ≤ 255 := by rw [BitVec.toNat_and, e]; exact Nat.and_le_right
  have b : Go.bits .and .i64 x 255 = IntKind.i64.wrap ((BitVec.ofInt 64 x &&& BitVec.ofInt 64 255).toNat : Nat) := rfl
  rw [b, IntKind.wrap_i64]
  omega
theorem new_loop (s : List Int) (hs : s.length ≤ 140737488351232) (k : Nat) : ∀ (x i : Int), 0 ≤ i → i ≤ s.length → (s.length : Int) - i < k → ∃ h, spec_l01New.l0 k s x i = some (s, 0, h) := by
  induction k with
  | zero => intro x i h0 h1 h2; omega
  | succ k ih =>
    intro x i h0 h1 h2
    rw [spec_l01New.l0]
    by_cases a : i < (s.length : Int)
    · rw [if_pos a]
      by_cases b : i < 4000
      · rw [if_pos b, if_pos h0]
        have e : wrap64 (i + 1) = i + 1 := by unfold wrap64; omega
        rw [e]
        exact ih _ _ (by omega) (by omega) (by omega)
      · rw [if_neg b]; exact ⟨_, rfl⟩
    · rw [if_neg a]; exact ⟨_, rfl⟩
theorem new_some (s : List Int) (hs : s.length ≤ 140737488351232) (k : Nat) (hk : s.length + 1 ≤ k) : ∃ h, spec_l01New.f k s = some (s, 0, h) := new_loop s hs k _ 0 (by omega) (by omega) (by omega)
theorem byte_some {s : List Int} (hs : s.length ≤ 140737488351232) {i : Int} (hi : Cur s i) (h : Int) : ∃ x i' h', spec_l01Byte.f s i h = some (x, i', h') ∧ (0 ≤ x ∧ x ≤ 255) ∧ Cur s i' := by
  unfold spec_l01Byte.f
  by_cases a : i < (s.length : Int)
  · rw [if_pos a, if_pos hi.1]
    refine ⟨_, _, _, rfl, and255 _, ?_⟩
    have h0 := hi.1
    have e : wrap64 (i + 1) = i + 1 := by unfold wrap64; omega
    rw [e]
    exact ⟨by have := hi.1; omega, by omega⟩
  · rw [if_neg a]
    exact ⟨_, _, _, rfl, and255 _, hi⟩
theorem tmod_in {x n : Int} (h0 : 0 ≤ x) (hn : 0 < n) : 0 ≤ Int.tmod x n ∧ Int.tmod x n < n := by
  rw [Int.tmod_eq_emod_of_nonneg h0]
  exact ⟨Int.emod_nonneg _ (by omega), Int.emod_lt_of_pos _ hn⟩
theorem below_some {s : List Int} (hs : s.length ≤ 140737488351232) {i : Int} (hi : Cur s i) (h n : Int) : ∃ x i' h', spec_l01Below.f s i h n = some (x, i', h') ∧ 0 ≤ x ∧ (0 < n → x < n) ∧ Cur s i' := by
  unfold spec_l01Below.f
  by_cases a : n ≤ 0
  · rw [if_pos a]; exact ⟨_, _, _, rfl, by omega, by omega, hi⟩
  · rw [if_neg a]
    obtain ⟨x, i1, h1, e1, b1, c1⟩ := byte_some hs hi h
    by_cases c : n ≤ 256
    · rw [if_pos c, e1]
      simp only [Option.bind_some]
      rw [if_neg (by omega)]
      have t := tmod_in b1.1 (show 0 < n by omega)
      exact ⟨_, _, _, rfl, t.1, fun _ => t.2, c1⟩
    · rw [if_neg c, e1]
      simp only [Option.bind_some]
      obtain ⟨y, i2, h2, e2, b2, c2⟩ := byte_some hs c1 h1
      rw [e2]
      simp only [Option.bind_some]
      obtain ⟨z, i3, h3, e3, b3, c3⟩ := byte_some hs c2 h2
      rw [e3]
      simp only [Option.bind_some]
      obtain ⟨v, i4, h4, e4, b4, c4⟩ := byte_some hs c3 h3
      rw [e4]
      simp only [Option.bind_some]
      rw [if_neg (by omega)]
      have t := tmod_in (show 0 ≤ wrap64 ((wrap64 ((wrap64 ((wrap64 (x * 16777216)) + (wrap64 (y * 65536)))) + (wrap64 (z * 256)))) + v) by unfold wrap64; omega) (show 0 < n by omega)
      exact ⟨_, _, _, rfl, t.1, fun _ => t.2, c4⟩

theorem num_all (n : Int) (h0 : 0 ≤ n) (h1 : n ≤ 1099511627775) (k : Nat) (hk : 14 ≤ k) : spec_NumText.f k n = some (mkB (numText n.toNat)) := by
  obtain ⟨m, rfl⟩ := Int.eq_ofNat_of_zero_le h0
  exact at_rounds (fun k => spec_NumText.mono _ k) hk (spec_num 13 m (by omega) (by omega) (by omega))
theorem key_some {s : List Int} (hs : s.length ≤ 140737488351232) {i : Int} (hi : Cur s i) (h : Int) (k : Nat) (hk : 14 ≤ k) : ∃ x i' h', spec_l02Key.f k s i h = some (x, i', h') ∧ Cur s i' := by
  unfold spec_l02Key.f
  obtain ⟨x, i1, h1, e1, b1, b2, c1⟩ := below_some hs hi h 20
  rw [e1]
  simp only [Option.bind_some]
  by_cases a : x < 16
  · rw [if_pos a, if_pos b1, if_pos (by simpa using a)]
    exact ⟨_, _, _, rfl, c1⟩
  · rw [if_neg a]
    by_cases b : x = 16
    · rw [if_pos b]; exact ⟨_, _, _, rfl, c1⟩
    · rw [if_neg b]
      by_cases c : x = 17
      · rw [if_pos c]; exact ⟨_, _, _, rfl, c1⟩
      · rw [if_neg c]
        obtain ⟨y, i2, h2, e2, d1, d2, c2⟩ := below_some hs c1 h1 30
        rw [e2]
        simp only [Option.bind_some]
        rw [num_all y d1 (by have := d2 (by omega); omega) k hk]
        simp only [Option.bind_some]
        have := numText_len 2 y.toNat (by have := d2 (by omega); omega)
        rw [mkB_size, if_pos (by omega)]
        exact ⟨_, _, _, rfl, c2⟩

theorem point_some (a : ByteArray) : ∃ x y, spec_PointOf.f a = some (x, y) := by
  unfold spec_PointOf.f spec_KeyOk.f
  by_cases h : (a.size : Int) ≥ 1
  · rw [if_pos h]
    simp only [Option.bind_some]
    by_cases h2 : (a.size : Int) ≤ 16
    · rw [if_pos (by simpa using h2), if_pos (by omega)]; exact ⟨_, _, rfl⟩
    · rw [if_neg (by simpa using h2)]; exact ⟨_, _, rfl⟩
  · rw [if_neg h]
    simp
theorem range_draw {s : List Int} (hs : s.length ≤ 140737488351232) {i : Int} (hi : Cur s i) (h : Int) (k : Nat) (hk : 20 ≤ k) : ∃ x y i' h', spec_l02Range.f k s i h = some (x, y, i', h') ∧ Cur s i' := by
  obtain ⟨m, rfl⟩ : ∃ m, k = m + 1 := ⟨k - 1, by omega⟩
  have j (x y : ByteArray) (z : Bool) (i h : Int) (hi : Cur s i) : ∃ x' y' i' h', spec_l02Range.j0 (m + 1) x y z s i h = some (x', y', i', h') ∧ Cur s i' := by
    rw [spec_l02Range.j0]
    obtain ⟨p, q, e⟩ := point_some x
    rw [e]
    simp only [Option.bind_some]
    split
    · exact ⟨_, _, _, _, rfl, hi⟩
    · split <;> exact ⟨_, _, _, _, rfl, hi⟩
  unfold spec_l02Range.f
  obtain ⟨x, i1, h1, e1, c1⟩ := key_some hs hi h (m + 1) (by omega)
  rw [e1]
  simp only [Option.bind_some]
  obtain ⟨y, i2, h2, e2, c2⟩ := key_some hs c1 h1 (m + 1) (by omega)
  rw [e2]
  simp only [Option.bind_some]
  obtain ⟨z, i3, h3, e3, b1, b2, c3⟩ := below_some hs c2 h2 6
  rw [e3]
  simp only [Option.bind_some]
  split
  · exact ⟨_, _, _, _, rfl, c3⟩
  · split
    · exact ⟨_, _, _, _, rfl, c3⟩
    · split
      · exact j _ _ _ _ _ c3
      · exact j _ _ _ _ _ c3
theorem anyrange_some {s : List Int} (hs : s.length ≤ 140737488351232) {i : Int} (hi : Cur s i) (h : Int) (k : Nat) (hk : 20 ≤ k) : ∃ x y i' h', spec_l02AnyRange.f k s i h = some (x, y, i', h') ∧ Cur s i' := by
  obtain ⟨m, rfl⟩ : ∃ m, k = m + 2 := ⟨k - 2, by omega⟩
  have j1 (m : Nat) (c : Int) (i h : Int) (hi : Cur s i) (x y : ByteArray) : ∃ x' y' i' h', spec_l02AnyRange.j1 (m + 1) c s i h x y = some (x', y', i', h') ∧ Cur s i' := by
    rw [spec_l02AnyRange.j1]
    by_cases a : c = 2
    · rw [if_pos a]
      simp only [Option.bind_some]
      obtain ⟨z, i3, h3, e3, b1, b2, c3⟩ := below_some hs hi h 2
      rw [e3]
      simp only [Option.bind_some]
      have hz : z = 0 ∨ z = 1 := by have := b2 (by omega); omega
      rw [if_pos b1, if_pos (by have := b2 (by omega); simpa using this)]
      have hsz : 17 + (rdOf ByteArray.empty [(⟨#[]⟩ : ByteArray), (⟨#[122]⟩ : ByteArray)] z).size ≤ 9223372036854775807 := by
        rcases hz with rfl | rfl <;> simp [rdOf, ByteArray.size]
      rw [if_pos hsz]
      split <;> exact ⟨_, _, _, _, rfl, c3⟩
    · rw [if_neg a]
      split <;> exact ⟨_, _, _, _, rfl, hi⟩
  have j0 (c : Int) (i h : Int) (hi : Cur s i) (x y : ByteArray) : ∃ x' y' i' h', spec_l02AnyRange.j0 (m + 2) c s i h x y = some (x', y', i', h') ∧ Cur s i' := by
    rw [spec_l02AnyRange.j0]
    by_cases a : c = 1
    · rw [if_pos a]
      obtain ⟨z, i3, h3, e3, b1, b2, c3⟩ := below_some hs hi h 2
      rw [e3]
      simp only [Option.bind_some]
      have e : wrap64 (17 + z) = 17 + z := by have := b2 (by omega); unfold wrap64; omega
      rw [e, if_pos (by omega), if_pos (by have := b2 (by omega); omega)]
      exact j1 m _ _ _ c3 _ _
    · rw [if_neg a]
      exact j1 m _ _ _ hi _ _
  unfold spec_l02AnyRange.f
  obtain ⟨x, y, i1, h1, e1, c1⟩ := range_draw hs hi h (m + 2) (by omega)
  rw [e1]
  simp only [Option.bind_some]
  obtain ⟨z, i3, h3, e3, b1, b2, c3⟩ := below_some hs c1 h1 14
  rw [e3]
  simp only [Option.bind_some]
  split
  · exact j0 _ _ _ c3 _ _
  · exact j0 _ _ _ c3 _ _

theorem anykey_some {s : List Int} (hs : s.length ≤ 140737488351232) {i : Int} (hi : Cur s i) (h : Int) (k : Nat) (hk : 14 ≤ k) : ∃ x i' h', spec_l02AnyKey.f k s i h = some (x, i', h') ∧ Cur s i' := by
  unfold spec_l02AnyKey.f
  obtain ⟨x, i1, h1, e1, b1, b2, c1⟩ := below_some hs hi h 8
  rw [e1]
  simp only [Option.bind_some]
  split
  · obtain ⟨y, i2, h2, e2, d1, d2, c2⟩ := below_some hs c1 h1 4
    rw [e2]
    simp only [Option.bind_some]
    rw [if_pos d1, if_pos (by have := d2 (by omega); simpa using this)]
    exact ⟨_, _, _, rfl, c2⟩
  · obtain ⟨y, i2, h2, e2, c2⟩ := key_some hs c1 h1 k hk
    rw [e2]
    exact ⟨_, _, _, rfl, c2⟩

/-! the order of texts -/
theorem bl_irrefl : ∀ a : List UInt8, Op.bytesLess a a = false
  | [] => rfl
  | a :: x => by
    have h : ¬ a < a := fun e => by have := UInt8.lt_iff_toNat_lt.mp e; omega
    simp [Op.bytesLess, h, bl_irrefl x]
theorem bl_trans : ∀ a b c : List UInt8, Op.bytesLess a b = true → Op.bytesLess b c = true → Op.bytesLess a c = true
  | _, [], _, h, _ => by simp [Op.bytesLess] at h
  | _, _ :: _, [], _, h => by simp [Op.bytesLess] at h
  | [], _ :: _, _ :: _, _, _ => by simp [Op.bytesLess]
  | a :: x, b :: y, c :: z, h1, h2 => by
    simp only [Op.bytesLess, Bool.or_eq_true, decide_eq_true_eq, Bool.and_eq_true, beq_iff_eq] at h1 h2 ⊢
    rcases h1 with h1 | ⟨rfl, h1⟩
    · rcases h2 with h2 | ⟨rfl, h2⟩
      · exact Or.inl (UInt8.lt_iff_toNat_lt.mpr (Nat.lt_trans (UInt8.lt_iff_toNat_lt.mp h1) (UInt8.lt_iff_toNat_lt.mp h2)))
      · exact Or.inl h1
    · rcases h2 with h2 | ⟨rfl, h2⟩
      · exact Or.inl h2
      · exact Or.inr ⟨rfl, bl_trans x y z h1 h2⟩
theorem bl_asymm {a b : List UInt8} (h : Op.bytesLess a b = true) : Op.bytesLess b a = false := by
  cases e : Op.bytesLess b a with
  | false => rfl
  | true =>
    have := bl_trans a b a h e
    rw [bl_irrefl] at this
    cases this
theorem bl_total {a b : List UInt8} (h : Op.bytesLess a b = false) : a = b ∨ Op.bytesLess b a = true := by
  have e := bl_flip a b
  rw [h] at e
  by_cases c : a = b
  · exact Or.inl c
  · right
    rw [← e]
    simp [c]
/-- not below, and not below: not below. -/
theorem bl_le_trans {a b c : List UInt8} (h1 : Op.bytesLess b a = false) (h2 : Op.bytesLess c b = false) : Op.bytesLess c a = false := by
  rcases bl_total h1 with rfl | h1
  · exact h2
  · rcases bl_total h2 with rfl | h2
    · exact bl_asymm h1
    · exact bl_asymm (bl_trans _ _ _ h1 h2)
theorem bl_lt_le {a b c : List UInt8} (h1 : Op.bytesLess a b = true) (h2 : Op.bytesLess c b = false) : Op.bytesLess a c = true := by
  rcases bl_total h2 with rfl | h2
  · exact h1
  · exact bl_trans _ _ _ h1 h2
theorem bl_le_lt {a b c : List UInt8} (h1 : Op.bytesLess b a = false) (h2 : Op.bytesLess b c = true) : Op.bytesLess a c = true := by
  rcases bl_total h1 with rfl | h1
  · exact h2
  · exact bl_trans _ _ _ h1 h2

theorem imp_range_eq (a b : ByteArray) : impl_RangeOk.f a b = spec_RangeOk.f a b := by
  unfold impl_RangeOk.f spec_RangeOk.f
  repeat' split
  all_goals first | rfl | omega
/-- a range is right -/
def rok (a b : ByteArray) : Bool := decide (a.size ≤ 17) && decide (b.size ≤ 17) && (b.toList == [] || Op.bytesLess a.toList b.toList)
theorem range_rok (a b : ByteArray) : spec_RangeOk.f a b = some (rok a b) := by
  unfold spec_RangeOk.f rok
  by_cases h1 : (a.size : Int) > 17
  · rw [if_pos h1]
    have : ¬ a.size ≤ 17 := by omega
    simp [this]
  · rw [if_neg h1]
    have e1 : a.size ≤ 17 := by omega
    by_cases h2 : (b.size : Int) > 17
    · rw [if_pos h2]
      have : ¬ b.size ≤ 17 := by omega
      simp [this]
    · rw [if_neg h2]
      have e2 : b.size ≤ 17 := by omega
      by_cases h3 : b.toList = []
      · rw [if_pos h3]
        simp [e1, e2, h3]
      · rw [if_neg h3]
        simp [e1, e2, h3]
/-- the ends of what two ranges have in common -/
def lo2 (a b : ByteArray) : ByteArray := if Op.bytesLess a.toList b.toList = true then b else a
def useB (ah bh : ByteArray) : Bool := ah.toList == [] || (!(bh.toList == []) && Op.bytesLess bh.toList ah.toList)
def hi2 (ah bh : ByteArray) : ByteArray := if useB ah bh = true then bh else ah
def both (al ah bl bh : ByteArray) : ByteArray × ByteArray × Bool :=
  if rok al ah && rok bl bh && rok (lo2 al bl) (hi2 ah bh) then (lo2 al bl, hi2 ah bh, true) else (⟨#[]⟩, ⟨#[]⟩, false)
theorem impl_both (al ah bl bh : ByteArray) (k : Nat) (hk : 4 ≤ k) : impl_RangeBoth.f k al ah bl bh = some (both al ah bl bh) := by
  obtain ⟨m, rfl⟩ : ∃ m, k = m + 2 := ⟨k - 2, by omega⟩
  unfold impl_RangeBoth.f both
  simp only [imp_range_eq, range_rok, Option.bind_some]
  have e : smx al bl = lo2 al bl := rfl
  cases ha : rok al ah with
  | false => simp [impl_RangeBoth.j0]
  | true =>
    cases hb : rok bl bh with
    | false => simp [impl_RangeBoth.j0]
    | true =>
      simp only [if_true, Bool.not_true, impl_RangeBoth.j0, Bool.true_and, e, imp_range_eq, range_rok, Option.bind_some, impl_RangeBoth.j1]
      by_cases h1 : ah.toList = []
      · simp only [hi2, useB, h1]
        cases hx : rok (lo2 al bl) bh <;> simp [hx]
      · by_cases h2 : bh.toList = []
        · simp only [hi2, useB, h1, h2]
          cases hx : rok (lo2 al bl) ah <;> simp [hx, h1]
        · cases h3 : Op.bytesLess bh.toList ah.toList
          · simp only [hi2, useB, h3]
            cases hx : rok (lo2 al bl) ah <;> simp [hx, h1, h2]
          · simp only [hi2, useB, h3]
            cases hx : rok (lo2 al bl) bh <;> simp [hx, h1, h2]
theorem spec_both (al ah bl bh : ByteArray) (k : Nat) (hk : 4 ≤ k) : spec_RangeBoth.f k al ah bl bh = some (both al ah bl bh) := by
  obtain ⟨m, rfl⟩ : ∃ m, k = m + 3 := ⟨k - 3, by omega⟩
  unfold spec_RangeBoth.f both
  simp only [range_rok, Option.bind_some]
  have l : (if Op.bytesLess al.toList bl.toList = true then spec_RangeBoth.j1 (m + 2) bl ah bl bh else spec_RangeBoth.j1 (m + 2) al ah bl bh) = spec_RangeBoth.j1 (m + 2) (lo2 al bl) ah bl bh := by
    unfold lo2
    split <;> rfl
  cases ha : rok al ah with
  | false => simp [spec_RangeBoth.j0]
  | true =>
    cases hb : rok bl bh with
    | false => simp [spec_RangeBoth.j0]
    | true =>
      simp only [if_true, Bool.not_true, spec_RangeBoth.j0, Bool.true_and]
      simp only [Bool.false_eq_true, if_false]
      rw [l]
      simp only [spec_RangeBoth.j1, spec_RangeBoth.j2, range_rok, Option.bind_some]
      by_cases h1 : ah.toList = []
      · simp only [hi2, useB, h1]
        cases hx : rok (lo2 al bl) bh <;> simp [hx]
      · by_cases h2 : bh.toList = []
        · simp only [hi2, useB, h1, h2]
          cases hx : rok (lo2 al bl) ah <;> simp [hx, h1]
        · cases h3 : Op.bytesLess bh.toList ah.toList
          · simp only [hi2, useB, h3]
            cases hx : rok (lo2 al bl) ah <;> simp [hx, h1, h2]
          · simp only [hi2, useB, h3]
            cases hx : rok (lo2 al bl) bh <;> simp [hx, h1, h2]
def kok (k : ByteArray) : Bool := decide (1 ≤ k.size) && decide (k.size ≤ 16)
def hasB (l h k : ByteArray) : Bool := !Op.bytesLess k.toList l.toList && (h.toList == [] || Op.bytesLess k.toList h.toList)
theorem kok_some (k : ByteArray) : impl_KeyOk.f k = some (kok k) := by
  unfold impl_KeyOk.f impl_within.f kok
  by_cases h1 : (k.size : Int) ≥ 1
  · rw [if_pos h1]
    have e1 : 1 ≤ k.size := by omega
    by_cases h2 : k.size ≤ 16
    · have : (k.size : Int) ≤ 16 := by omega
      simp [e1, h2, this]
    · have : ¬ (k.size : Int) ≤ 16 := by omega
      simp [h2, this]
  · rw [if_neg h1]
    have e1 : ¬ 1 ≤ k.size := by omega
    simp [e1]
theorem isE {l : List UInt8} (h : ¬ l = []) : l.isEmpty = false := by simp [h]
theorem has_some (l h k : ByteArray) : impl_RangeHas.f l h k = some (rok l h && kok k && hasB l h k) := by
  unfold impl_RangeHas.f impl_Range_has.f hasB
  simp only [imp_range_eq, range_rok, kok_some, Option.bind_some]
  cases rok l h
  · simp
  · cases kok k
    · simp
    · cases h3 : Op.bytesLess k.toList l.toList
      · by_cases h4 : h.toList = []
        · simp [h4]
        · have := isE h4
          simp [h4, this]
      · simp
def inB (al ah bl bh : ByteArray) : Bool := !Op.bytesLess al.toList bl.toList && (bh.toList == [] || (!(ah.toList == []) && !Op.bytesLess bh.toList ah.toList))
theorem in_some (al ah bl bh : ByteArray) : impl_RangeIn.f al ah bl bh = some (rok al ah && rok bl bh && inB al ah bl bh) := by
  unfold impl_RangeIn.f inB
  simp only [imp_range_eq, range_rok, Option.bind_some]
  cases rok al ah
  · simp
  · cases rok bl bh
    · simp
    · cases h3 : Op.bytesLess al.toList bl.toList
      · by_cases h4 : bh.toList = []
        · simp [h4]
        · have e4 := isE h4
          by_cases h5 : ah.toList = []
          · simp [h4, e4, h5]
          · have e5 := isE h5
            simp [h4, e4, h5, e5]
      · simp

theorem not_nil_lt {l k : List UInt8} (h : Op.bytesLess k l = true) : l ≠ [] := by
  rintro rfl
  cases k <;> simp [Op.bytesLess] at h
theorem lo_has (a b k : ByteArray) : Op.bytesLess k.toList (lo2 a b).toList = false ↔ (Op.bytesLess k.toList a.toList = false ∧ Op.bytesLess k.toList b.toList = false) := by
  unfold lo2
  cases h : Op.bytesLess a.toList b.toList
  · simp only [Bool.false_eq_true, if_false]
    constructor
    · intro g
      exact ⟨g, bl_le_trans h g⟩
    · exact fun g => g.1
  · simp only [if_true]
    constructor
    · intro g
      exact ⟨bl_le_trans (bl_asymm h) g, g⟩
    · exact fun g => g.2
theorem hi_has (a b k : ByteArray) : ((hi2 a b).toList = [] ∨ Op.bytesLess k.toList (hi2 a b).toList = true) ↔ ((a.toList = [] ∨ Op.bytesLess k.toList a.toList = true) ∧ (b.toList = [] ∨ Op.bytesLess k.toList b.toList = true)) := by
  unfold hi2 useB
  by_cases h1 : a.toList = []
  · simp [h1]
  · by_cases h2 : b.toList = []
    · simp [h1, h2]
    · cases h3 : Op.bytesLess b.toList a.toList
      · simp only [h1, h2, h3, beq_iff_eq, Bool.or_eq_true, Bool.and_eq_true, Bool.not_eq_true', beq_eq_false_iff_ne, ne_eq, not_false_eq_true, true_and, or_self, false_or, Bool.false_eq_true, if_false]
        constructor
        · intro g
          exact ⟨g, bl_lt_le g h3⟩
        · exact fun g => g.1
      · simp only [h1, h2, h3, beq_iff_eq, Bool.or_eq_true, Bool.and_eq_true, Bool.not_eq_true', beq_eq_false_iff_ne, ne_eq, not_false_eq_true, and_self, or_true, false_or, if_true]
        constructor
        · intro g
          exact ⟨bl_trans _ _ _ g h3, g⟩
        · exact fun g => g.2
theorem hasB_iff (l h k : ByteArray) : hasB l h k = true ↔ (Op.bytesLess k.toList l.toList = false ∧ (h.toList = [] ∨ Op.bytesLess k.toList h.toList = true)) := by
  unfold hasB
  simp
theorem both_has (al ah bl bh k : ByteArray) : hasB (lo2 al bl) (hi2 ah bh) k = true ↔ (hasB al ah k = true ∧ hasB bl bh k = true) := by
  rw [hasB_iff, hasB_iff, hasB_iff, lo_has, hi_has]
  exact ⟨fun h => ⟨⟨h.1.1, h.2.1⟩, h.1.2, h.2.2⟩, fun h => ⟨⟨h.1.1, h.2.1⟩, h.1.2, h.2.2⟩⟩
theorem lo_size (a b : ByteArray) (ha : a.size ≤ 17) (hb : b.size ≤ 17) : (lo2 a b).size ≤ 17 := by unfold lo2; split <;> assumption
theorem hi_size (a b : ByteArray) (ha : a.size ≤ 17) (hb : b.size ≤ 17) : (hi2 a b).size ≤ 17 := by unfold hi2; split <;> assumption
theorem has_rok {l h k : ByteArray} (hl : l.size ≤ 17) (hh : h.size ≤ 17) (g : hasB l h k = true) : rok l h = true := by
  rw [hasB_iff] at g
  unfold rok
  simp only [hl, hh, decide_true, Bool.true_and, Bool.or_eq_true, beq_iff_eq]
  rcases g.2 with e | e
  · exact Or.inl e
  · exact Or.inr (bl_le_lt g.1 e)
theorem rok_sizes {a b : ByteArray} (h : rok a b = true) : a.size ≤ 17 ∧ b.size ≤ 17 := by
  unfold rok at h
  simp only [Bool.and_eq_true, decide_eq_true_eq] at h
  exact h.1
theorem lo_ge (a b : ByteArray) : Op.bytesLess (lo2 a b).toList a.toList = false ∧ Op.bytesLess (lo2 a b).toList b.toList = false := by
  unfold lo2
  cases h : Op.bytesLess a.toList b.toList
  · simp [bl_irrefl, h]
  · simp [bl_irrefl, bl_asymm h]
theorem hi_le (a b : ByteArray) : (a.toList = [] ∨ ((hi2 a b).toList ≠ [] ∧ Op.bytesLess a.toList (hi2 a b).toList = false)) ∧ (b.toList = [] ∨ ((hi2 a b).toList ≠ [] ∧ Op.bytesLess b.toList (hi2 a b).toList = false)) := by
  unfold hi2 useB
  by_cases h1 : a.toList = []
  · by_cases h2 : b.toList = [] <;> simp [h1, h2, bl_irrefl]
  · by_cases h2 : b.toList = []
    · simp [h1, h2, bl_irrefl]
    · cases h3 : Op.bytesLess b.toList a.toList
      · simp [h1, h2, h3, bl_irrefl]
      · simp [h1, h2, h3, bl_irrefl, bl_asymm h3]

theorem DRAWS (s : List Int) (hs : s.length ≤ 140737488351232) (k : Nat) (hk : s.length + 30 ≤ k) :
    (∃ a b c d, spec_DrawRangeBoth.f k s = some (a, b, c, d)) ∧ ∃ a b c, spec_DrawRangeHas.f k s = some (a, b, c) := by
  obtain ⟨h, e0⟩ := new_some s hs k (by omega)
  have c0 : Cur s 0 := ⟨by omega, by omega⟩
  constructor
  · unfold spec_DrawRangeBoth.f
    rw [e0]
    simp only [Option.bind_some]
    obtain ⟨x, y, i1, h1, e1, c1⟩ := anyrange_some hs c0 h k (by omega)
    rw [e1]
    simp only [Option.bind_some]
    obtain ⟨x2, y2, i2, h2, e2, c2⟩ := anyrange_some hs c1 h1 k (by omega)
    rw [e2]
    exact ⟨_, _, _, _, rfl⟩
  · unfold spec_DrawRangeHas.f
    rw [e0]
    simp only [Option.bind_some]
    obtain ⟨x, y, i1, h1, e1, c1⟩ := anyrange_some hs c0 h k (by omega)
    rw [e1]
    simp only [Option.bind_some]
    obtain ⟨x2, i2, h2, e2, c2⟩ := anykey_some hs c1 h1 k (by omega)
    rw [e2]
    exact ⟨_, _, _, rfl⟩

theorem FnBoth : laws_FnBoth.Pure := by
  intro s hm hs hw
  have hs' : s.length ≤ 140737488351232 := by omega
  obtain ⟨⟨al, ah, bl, bh, e1⟩, r1, r2, key, e2⟩ := DRAWS s hs' (s.length + 30) (by omega)
  refine ⟨s.length + 30, ?_⟩
  unfold laws_FnBoth.f
  by_cases h0 : (s.length : Int) > 1048576
  · rw [if_pos h0]
  · rw [if_neg h0, e1, e2]
    simp only [Option.bind_some]
    rw [impl_both _ _ _ _ _ (by omega), spec_both _ _ _ _ _ (by omega)]
    simp only [Option.bind_some, bne_self_eq_false, Bool.false_eq_true, if_false, has_some]
    have j (x : Bool) (hxy : x = (rok al ah && kok key && hasB al ah key && (rok bl bh && kok key && hasB bl bh key))) :
        laws_FnBoth.j0 (s.length + 29 + 1) key (both al ah bl bh).2.2 x al ah bl bh (both al ah bl bh).1 (both al ah bl bh).2.1 = some true := by
      rw [laws_FnBoth.j0]
      simp only [has_some, in_some, Option.bind_some]
      cases hb : (rok al ah && rok bl bh && rok (lo2 al bl) (hi2 ah bh)) with
      | true =>
        have eb : both al ah bl bh = (lo2 al bl, hi2 ah bh, true) := by unfold both; rw [hb]; rfl
        rw [eb]
        simp only [Bool.and_eq_true] at hb
        obtain ⟨⟨ra, rb⟩, rr⟩ := hb
        have e3 : (rok (lo2 al bl) (hi2 ah bh) && kok key && hasB (lo2 al bl) (hi2 ah bh) key) = x := by
          rw [hxy, rr, ra, rb]
          have := both_has al ah bl bh key
          cases kok key
          · simp
          · simp only [Bool.true_and]
            rw [Bool.eq_iff_iff, this, Bool.and_eq_true]
        have l := lo_ge al bl
        have h := hi_le ah bh
        have i1 : inB (lo2 al bl) (hi2 ah bh) al ah = true := by
          unfold inB
          rcases h.1 with g | g
          · simp [l.1, g]
          · simp [l.1, g.1, g.2]
        have i2 : inB (lo2 al bl) (hi2 ah bh) bl bh = true := by
          unfold inB
          rcases h.2 with g | g
          · simp [l.2, g]
          · simp [l.2, g.1, g.2]
        simp only [e3]
        simp [rr, ra, rb, i1, i2]
      | false =>
        have eb : both al ah bl bh = (⟨#[]⟩, ⟨#[]⟩, false) := by unfold both; rw [hb]; rfl
        rw [eb]
        have : x = false := by
          cases hx : x
          · rfl
          · exfalso
            rw [hx] at hxy
            have h := hxy.symm
            simp only [Bool.and_eq_true] at h
            obtain ⟨⟨⟨ra, kk⟩, ha⟩, ⟨rb, _⟩, hb2⟩ := h
            have g := (both_has al ah bl bh key).mpr ⟨ha, hb2⟩
            have sa := rok_sizes ra
            have sb := rok_sizes rb
            have := has_rok (lo_size al bl sa.1 sb.1) (hi_size ah bh sa.2 sb.2) g
            rw [ra, rb, this] at hb
            cases hb
        subst this
        simp
    cases h1 : (rok al ah && kok key && hasB al ah key) with
    | true =>
      simp only [if_true, Option.bind_some]
      exact j _ (by rw [h1]; rfl)
    | false =>
      simp only [Bool.false_eq_true, if_false]
      exact j _ (by rw [h1]; rfl)


end Go.Proofs.Ythoiahaedhnigaa.Pure
