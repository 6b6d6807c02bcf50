/- The law FnRoute in plain Lean: each key has one shard, whose range has it, and the parts of a cut range lie within it and within their shards, for whatever a draw makes. Only the printed size bounds are asked. -/
import Derived.Test.YthoiahaedhnigaaPFnRoutex8
import Derived.Lib.Strings
namespace Go.Proofs.Ythoiahaedhnigaa.Pure
set_option linter.unusedVariables false
set_option linter.unusedSimpArgs false
open Go.RowKit Go.Proofs.Ythoiahaedhnigaa.PFnRoute Go.Proofs.YthoiahaedhnigaaW.PrintWords Go.Proofs.YthoiahaedhnigaaW.PrintLast Go.Proofs.YthoiahaedhnigaaW.PrintMore

/-! numbers' texts -/
def numText (n : Nat) : List UInt8 := if n < 10 then [UInt8.ofNat (48 + n)] else numText (n / 10) ++ [UInt8.ofNat (48 + n % 10)]
termination_by n
decreasing_by omega

def mkB (l : List UInt8) : ByteArray := ⟨l.toArray⟩
theorem mkB_append (a b : List UInt8) : mkB a ++ mkB b = mkB (a ++ b) := by
  apply ByteArray.ext
  simp [mkB, ByteArray.data_append]
theorem mkB_size (a : List UInt8) : (mkB a).size = a.length := by simp [mkB, ByteArray.size]
theorem mkB_of (s : ByteArray) : s = mkB s.data.toList := by
  apply ByteArray.ext
  simp [mkB]

theorem numText_small {n : Nat} (h : n < 10) : numText n = [UInt8.ofNat (48 + n)] := by rw [numText, if_pos h]
theorem numText_big {n : Nat} (h : ¬ n < 10) : numText n = numText (n / 10) ++ [UInt8.ofNat (48 + n % 10)] := by rw [numText, if_neg h]
theorem numText_len (k : Nat) : ∀ n : Nat, n < 10 ^ (k + 1) → (numText n).length ≤ k + 1 := by
  induction k with
  | zero => intro n hn; rw [numText_small (by simpa using hn)]; simp
  | succ k ih =>
    intro n hn
    by_cases h : n < 10
    · rw [numText_small h]; simp
    · rw [numText_big h, List.length_append, List.length_singleton]
      have := ih (n / 10) (by rw [Nat.pow_succ] at hn; omega)
      omega

theorem digit_one (d : Nat) (h : d < 10) : strOfNums [(wrap64 (48 + (d : Int))) % 256] = mkB [UInt8.ofNat (48 + d)] := by
  have e : wrap64 (48 + (d : Int)) % 256 = ((48 + d : Nat) : Int) := by unfold wrap64; omega
  rw [e]
  rfl
theorem digit_mod (n : Nat) : strOfNums [(wrap64 (48 + Int.tmod (n : Int) 10)) % 256] = mkB [UInt8.ofNat (48 + n % 10)] := by
  have e : Int.tmod (n : Int) 10 = ((n % 10 : Nat) : Int) := rfl
  rw [e, digit_one _ (by omega)]
theorem tdiv_ten (n : Nat) (h : n ≤ 1099511627775) : wrap64 (Int.tdiv (n : Int) 10) = ((n / 10 : Nat) : Int) := by
  have e : Int.tdiv (n : Int) 10 = ((n / 10 : Nat) : Int) := rfl
  rw [e]
  unfold wrap64
  omega


theorem spec_num (k : Nat) : ∀ n : Nat, n < 10 ^ (k + 1) → n ≤ 1099511627775 → k ≤ 100 → spec_NumText.f (k + 1) (n : Int) = some (mkB (numText n)) := by
  induction k with
  | zero =>
    intro n hn hm _
    have h10 : n < 10 := by simpa using hn
    simp only [spec_NumText.f, spec_l01Num.f]
    rw [if_pos (by omega : (n : Int) ≥ 0)]
    simp only [Option.bind_some]
    rw [if_pos (by simp; omega), if_pos (by omega), digit_one n h10, numText_small h10]
  | succ k ih =>
    intro n hn hm hk
    rw [spec_NumText.f, spec_l01Num.f]
    rw [if_pos (by omega : (n : Int) ≥ 0)]
    simp only [Option.bind_some]
    rw [if_pos (by simp; omega)]
    by_cases h10 : n < 10
    · rw [if_pos (by omega), digit_one n h10, numText_small h10]
    · rw [if_neg (by omega), tdiv_ten n hm, ih (n / 10) (by rw [Nat.pow_succ] at hn; omega) (by omega) (by omega)]
      simp only [Option.bind_some]
      have hl := numText_len k (n / 10) (by rw [Nat.pow_succ] at hn; omega)
      rw [digit_mod, mkB_size, mkB_size, if_pos (by simp; omega), mkB_append, ← numText_big h10]

theorem spec_numText (n : Nat) (hm : n ≤ 1099511627775) : spec_NumText.f 14 (n : Int) = some (mkB (numText n)) := spec_num 13 n (by omega) hm (by omega)

/-! the cursor of a draw -/
def Cur (s : List Int) (i : Int) : Prop := 0 ≤ i ∧ i ≤ s.length
theorem and255 (x : Int) : 0 ≤ Go.bits .and .i64 x 255 ∧ Go.bits .and .i64 x 255 ≤ 255 := by
  have e : (BitVec.ofInt 64 255).toNat = 255 := by decide
  have h : ((BitVec.ofInt 64 x &&& BitVec.ofInt 64 255).toNat : Nat) ≤ 255 := by rw [BitVec.toNat_and, e]; exact Nat.and_le_right
  have b : Go.bits .and .i64 x 255 = IntKind.i64.wrap ((BitVec.ofInt 64 x &&& BitVec.ofInt 64 255).toNat : Nat) := rfl
  rw [b, IntKind.wrap_i64]
  omega
theorem new_loop (s : List Int) (hs : s.length ≤ 140737488351232) (k : Nat) : ∀ (x i : Int), 0 ≤ i → i ≤ s.length → (s.length : Int) - i < k → ∃ h, spec_l01New.l0 k s x i = some (s, 0, h) := by
  induction k with
  | zero => intro x i h0 h1 h2; omega
  | succ k ih =>
    intro x i h0 h1 h2
    rw [spec_l01New.l0]
    by_cases a : i < (s.length : Int)
    · rw [if_pos a]
      by_cases b : i < 4000
      · rw [if_pos b, if_pos h0]
        have e : wrap64 (i + 1) = i + 1 := by unfold wrap64; omega
        rw [e]
        exact ih _ _ (by omega) (by omega) (by omega)
      · rw [if_neg b]; exact ⟨_, rfl⟩
    · rw [if_neg a]; exact ⟨_, rfl⟩
theorem new_some (s : List Int) (hs : s.length ≤ 140737488351232) (k : Nat) (hk : s.length + 1 ≤ k) : ∃ h, spec_l01New.f k s = some (s, 0, h) := new_loop s hs k _ 0 (by omega) (by omega) (by omega)
theorem byte_some {s : List Int} (hs : s.length ≤ 140737488351232) {i : Int} (hi : Cur s i) (h : Int) : ∃ x i' h', spec_l01Byte.f s i h = some (x, i', h') ∧ (0 ≤ x ∧ x ≤ 255) ∧ Cur s i' := by
  unfold spec_l01Byte.f
  by_cases a : i < (s.length : Int)
  · rw [if_pos a, if_pos hi.1]
    refine ⟨_, _, _, rfl, and255 _, ?_⟩
    have h0 := hi.1
    have e : wrap64 (i + 1) = i + 1 := by unfold wrap64; omega
    rw [e]
    exact ⟨by have := hi.1; omega, by omega⟩
  · rw [if_neg a]
    exact ⟨_, _, _, rfl, and255 _, hi⟩
theorem tmod_in {x n : Int} (h0 : 0 ≤ x) (hn : 0 < n) : 0 ≤ Int.tmod x n ∧ Int.tmod x n < n := by
  rw [Int.tmod_eq_emod_of_nonneg h0]
  exact ⟨Int.emod_nonneg _ (by omega), Int.emod_lt_of_pos _ hn⟩
theorem below_some {s : List Int} (hs : s.length ≤ 140737488351232) {i : Int} (hi : Cur s i) (h n : Int) : ∃ x i' h', spec_l01Below.f s i h n = some (x, i', h') ∧ 0 ≤ x ∧ (0 < n → x < n) ∧ Cur s i' := by
  unfold spec_l01Below.f
  by_cases a : n ≤ 0
  · rw [if_pos a]; exact ⟨_, _, _, rfl, by omega, by omega, hi⟩
  · rw [if_neg a]
    obtain ⟨x, i1, h1, e1, b1, c1⟩ := byte_some hs hi h
    by_cases c : n ≤ 256
    · rw [if_pos c, e1]
      simp only [Option.bind_some]
      rw [if_neg (by omega)]
      have t := tmod_in b1.1 (show 0 < n by omega)
      exact ⟨_, _, _, rfl, t.1, fun _ => t.2, c1⟩
    · rw [if_neg c, e1]
      simp only [Option.bind_some]
      obtain ⟨y, i2, h2, e2, b2, c2⟩ := byte_some hs c1 h1
      rw [e2]
      simp only [Option.bind_some]
      obtain ⟨z, i3, h3, e3, b3, c3⟩ := byte_some hs c2 h2
      rw [e3]
      simp only [Option.bind_some]
      obtain ⟨v, i4, h4, e4, b4, c4⟩ := byte_some hs c3 h3
      rw [e4]
      simp only [Option.bind_some]
      rw [if_neg (by omega)]
      have t := tmod_in (show 0 ≤ wrap64 ((wrap64 ((wrap64 ((wrap64 (x * 16777216)) + (wrap64 (y * 65536)))) + (wrap64 (z * 256)))) + v) by unfold wrap64; omega) (show 0 < n by omega)
      exact ⟨_, _, _, rfl, t.1, fun _ => t.2, c4⟩

theorem num_all (n : Int) (h0 : 0 ≤ n) (h1 : n ≤ 1099511627775) (k : Nat) (hk : 14 ≤ k) : spec_NumText.f k n = some (mkB (numText n.toNat)) := by
  obtain ⟨m, rfl⟩ := Int.eq_ofNat_of_zero_le h0
  exact at_rounds (fun k => spec_NumText.mono _ k) hk (spec_num 13 m (by omega) (by omega) (by omega))
theorem key_some {s : List Int} (hs : s.length ≤ 140737488351232) {i : Int} (hi : Cur s i) (h : Int) (k : Nat) (hk : 14 ≤ k) : ∃ x i' h', spec_l02Key.f k s i h = some (x, i', h') ∧ Cur s i' := by
  unfold spec_l02Key.f
  obtain ⟨x, i1, h1, e1, b1, b2, c1⟩ := below_some hs hi h 20
  rw [e1]
  simp only [Option.bind_some]
  by_cases a : x < 16
  · rw [if_pos a, if_pos b1, if_pos (by simpa using a)]
    exact ⟨_, _, _, rfl, c1⟩
  · rw [if_neg a]
    by_cases b : x = 16
    · rw [if_pos b]; exact ⟨_, _, _, rfl, c1⟩
    · rw [if_neg b]
      by_cases c : x = 17
      · rw [if_pos c]; exact ⟨_, _, _, rfl, c1⟩
      · rw [if_neg c]
        obtain ⟨y, i2, h2, e2, d1, d2, c2⟩ := below_some hs c1 h1 30
        rw [e2]
        simp only [Option.bind_some]
        rw [num_all y d1 (by have := d2 (by omega); omega) k hk]
        simp only [Option.bind_some]
        have := numText_len 2 y.toNat (by have := d2 (by omega); omega)
        rw [mkB_size, if_pos (by omega)]
        exact ⟨_, _, _, rfl, c2⟩

theorem point_some (a : ByteArray) : ∃ x y, spec_PointOf.f a = some (x, y) := by
  unfold spec_PointOf.f spec_KeyOk.f
  by_cases h : (a.size : Int) ≥ 1
  · rw [if_pos h]
    simp only [Option.bind_some]
    by_cases h2 : (a.size : Int) ≤ 16
    · rw [if_pos (by simpa using h2), if_pos (by omega)]; exact ⟨_, _, rfl⟩
    · rw [if_neg (by simpa using h2)]; exact ⟨_, _, rfl⟩
  · rw [if_neg h]
    simp
theorem range_draw {s : List Int} (hs : s.length ≤ 140737488351232) {i : Int} (hi : Cur s i) (h : Int) (k : Nat) (hk : 20 ≤ k) : ∃ x y i' h', spec_l02Range.f k s i h = some (x, y, i', h') ∧ Cur s i' := by
  obtain ⟨m, rfl⟩ : ∃ m, k = m + 1 := ⟨k - 1, by omega⟩
  have j (x y : ByteArray) (z : Bool) (i h : Int) (hi : Cur s i) : ∃ x' y' i' h', spec_l02Range.j0 (m + 1) x y z s i h = some (x', y', i', h') ∧ Cur s i' := by
    rw [spec_l02Range.j0]
    obtain ⟨p, q, e⟩ := point_some x
    rw [e]
    simp only [Option.bind_some]
    split
    · exact ⟨_, _, _, _, rfl, hi⟩
    · split <;> exact ⟨_, _, _, _, rfl, hi⟩
  unfold spec_l02Range.f
  obtain ⟨x, i1, h1, e1, c1⟩ := key_some hs hi h (m + 1) (by omega)
  rw [e1]
  simp only [Option.bind_some]
  obtain ⟨y, i2, h2, e2, c2⟩ := key_some hs c1 h1 (m + 1) (by omega)
  rw [e2]
  simp only [Option.bind_some]
  obtain ⟨z, i3, h3, e3, b1, b2, c3⟩ := below_some hs c2 h2 6
  rw [e3]
  simp only [Option.bind_some]
  split
  · exact ⟨_, _, _, _, rfl, c3⟩
  · split
    · exact ⟨_, _, _, _, rfl, c3⟩
    · split
      · exact j _ _ _ _ _ c3
      · exact j _ _ _ _ _ c3
theorem anyrange_some {s : List Int} (hs : s.length ≤ 140737488351232) {i : Int} (hi : Cur s i) (h : Int) (k : Nat) (hk : 20 ≤ k) : ∃ x y i' h', spec_l02AnyRange.f k s i h = some (x, y, i', h') ∧ Cur s i' := by
  obtain ⟨m, rfl⟩ : ∃ m, k = m + 2 := ⟨k - 2, by omega⟩
  have j1 (m : Nat) (c : Int) (i h : Int) (hi : Cur s i) (x y : ByteArray) : ∃ x' y' i' h', spec_l02AnyRange.j1 (m + 1) c s i h x y = some (x', y', i', h') ∧ Cur s i' := by
    rw [spec_l02AnyRange.j1]
    by_cases a : c = 2
    · rw [if_pos a]
      simp only [Option.bind_some]
      obtain ⟨z, i3, h3, e3, b1, b2, c3⟩ := below_some hs hi h 2
      rw [e3]
      simp only [Option.bind_some]
      have hz : z = 0 ∨ z = 1 := by have := b2 (by omega); omega
      rw [if_pos b1, if_pos (by have := b2 (by omega); simpa using this)]
      have hsz : 17 + (rdOf ByteArray.empty [(⟨#[]⟩ : ByteArray), (⟨#[122]⟩ : ByteArray)] z).size ≤ 9223372036854775807 := by
        rcases hz with rfl | rfl <;> simp [rdOf, ByteArray.size]
      rw [if_pos hsz]
      split <;> exact ⟨_, _, _, _, rfl, c3⟩
    · rw [if_neg a]
      split <;> exact ⟨_, _, _, _, rfl, hi⟩
  have j0 (c : Int) (i h : Int) (hi : Cur s i) (x y : ByteArray) : ∃ x' y' i' h', spec_l02AnyRange.j0 (m + 2) c s i h x y = some (x', y', i', h') ∧ Cur s i' := by
    rw [spec_l02AnyRange.j0]
    by_cases a : c = 1
    · rw [if_pos a]
      obtain ⟨z, i3, h3, e3, b1, b2, c3⟩ := below_some hs hi h 2
      rw [e3]
      simp only [Option.bind_some]
      have e : wrap64 (17 + z) = 17 + z := by have := b2 (by omega); unfold wrap64; omega
      rw [e, if_pos (by omega), if_pos (by have := b2 (by omega); omega)]
      exact j1 m _ _ _ c3 _ _
    · rw [if_neg a]
      exact j1 m _ _ _ hi _ _
  unfold spec_l02AnyRange.f
  obtain ⟨x, y, i1, h1, e1, c1⟩ := range_draw hs hi h (m + 2) (by omega)
  rw [e1]
  simp only [Option.bind_some]
  obtain ⟨z, i3, h3, e3, b1, b2, c3⟩ := below_some hs c1 h1 14
  rw [e3]
  simp only [Option.bind_some]
  split
  · exact j0 _ _ _ c3 _ _
  · exact j0 _ _ _ c3 _ _

theorem anykey_some {s : List Int} (hs : s.length ≤ 140737488351232) {i : Int} (hi : Cur s i) (h : Int) (k : Nat) (hk : 14 ≤ k) : ∃ x i' h', spec_l02AnyKey.f k s i h = some (x, i', h') ∧ Cur s i' := by
  unfold spec_l02AnyKey.f
  obtain ⟨x, i1, h1, e1, b1, b2, c1⟩ := below_some hs hi h 8
  rw [e1]
  simp only [Option.bind_some]
  split
  · obtain ⟨y, i2, h2, e2, d1, d2, c2⟩ := below_some hs c1 h1 4
    rw [e2]
    simp only [Option.bind_some]
    rw [if_pos d1, if_pos (by have := d2 (by omega); simpa using this)]
    exact ⟨_, _, _, rfl, c2⟩
  · obtain ⟨y, i2, h2, e2, c2⟩ := key_some hs c1 h1 k hk
    rw [e2]
    exact ⟨_, _, _, rfl, c2⟩

/-! the order of texts -/
theorem bl_irrefl : ∀ a : List UInt8, Op.bytesLess a a = false
  | [] => rfl
  | a :: x => by
    have h : ¬ a < a := fun e => by have := UInt8.lt_iff_toNat_lt.mp e; omega
    simp [Op.bytesLess, h, bl_irrefl x]
theorem bl_trans : ∀ a b c : List UInt8, Op.bytesLess a b = true → Op.bytesLess b c = true → Op.bytesLess a c = true
  | _, [], _, h, _ => by simp [Op.bytesLess] at h
  | _, _ :: _, [], _, h => by simp [Op.bytesLess] at h
  | [], _ :: _, _ :: _, _, _ => by simp [Op.bytesLess]
  | a :: x, b :: y, c :: z, h1, h2 => by
    simp only [Op.bytesLess, Bool.or_eq_true, decide_eq_true_eq, Bool.and_eq_true, beq_iff_eq] at h1 h2 ⊢
    rcases h1 with h1 | ⟨rfl, h1⟩
    · rcases h2 with h2 | ⟨rfl, h2⟩
      · exact Or.inl (UInt8.lt_iff_toNat_lt.mpr (Nat.lt_trans (UInt8.lt_iff_toNat_lt.mp h1) (UInt8.lt_iff_toNat_lt.mp h2)))
      · exact Or.inl h1
    · rcases h2 with h2 | ⟨rfl, h2⟩
      · exact Or.inl h2
      · exact Or.inr ⟨rfl, bl_trans x y z h1 h2⟩
theorem bl_asymm {a b : List UInt8} (h : Op.bytesLess a b = true) : Op.bytesLess b a = false := by
  cases e : Op.bytesLess b a with
  | false => rfl
  | true =>
    have := bl_trans a b a h e
    rw [bl_irrefl] at this
    cases this
theorem bl_total {a b : List UInt8} (h : Op.bytesLess a b = false) : a = b ∨ Op.bytesLess b a = true := by
  have e := bl_flip a b
  rw [h] at e
  by_cases c : a = b
  · exact Or.inl c
  · right
    rw [← e]
    simp [c]
/-- not below, and not below: not below. -/
theorem bl_le_trans {a b c : List UInt8} (h1 : Op.bytesLess b a = false) (h2 : Op.bytesLess c b = false) : Op.bytesLess c a = false := by
  rcases bl_total h1 with rfl | h1
  · exact h2
  · rcases bl_total h2 with rfl | h2
    · exact bl_asymm h1
    · exact bl_asymm (bl_trans _ _ _ h1 h2)
theorem bl_lt_le {a b c : List UInt8} (h1 : Op.bytesLess a b = true) (h2 : Op.bytesLess c b = false) : Op.bytesLess a c = true := by
  rcases bl_total h2 with rfl | h2
  · exact h1
  · exact bl_trans _ _ _ h1 h2
theorem bl_le_lt {a b c : List UInt8} (h1 : Op.bytesLess b a = false) (h2 : Op.bytesLess b c = true) : Op.bytesLess a c = true := by
  rcases bl_total h1 with rfl | h1
  · exact h2
  · exact bl_trans _ _ _ h1 h2

theorem imp_range_eq (a b : ByteArray) : impl_RangeOk.f a b = spec_RangeOk.f a b := by
  unfold impl_RangeOk.f spec_RangeOk.f
  repeat' split
  all_goals first | rfl | omega
/-- a range is right -/
def rok (a b : ByteArray) : Bool := decide (a.size ≤ 17) && decide (b.size ≤ 17) && (b.toList == [] || Op.bytesLess a.toList b.toList)
theorem range_rok (a b : ByteArray) : spec_RangeOk.f a b = some (rok a b) := by
  unfold spec_RangeOk.f rok
  by_cases h1 : (a.size : Int) > 17
  · rw [if_pos h1]
    have : ¬ a.size ≤ 17 := by omega
    simp [this]
  · rw [if_neg h1]
    have e1 : a.size ≤ 17 := by omega
    by_cases h2 : (b.size : Int) > 17
    · rw [if_pos h2]
      have : ¬ b.size ≤ 17 := by omega
      simp [this]
    · rw [if_neg h2]
      have e2 : b.size ≤ 17 := by omega
      by_cases h3 : b.toList = []
      · rw [if_pos h3]
        simp [e1, e2, h3]
      · rw [if_neg h3]
        simp [e1, e2, h3]
/-- the ends of what two ranges have in common -/
def lo2 (a b : ByteArray) : ByteArray := if Op.bytesLess a.toList b.toList = true then b else a
def useB (ah bh : ByteArray) : Bool := ah.toList == [] || (!(bh.toList == []) && Op.bytesLess bh.toList ah.toList)
def hi2 (ah bh : ByteArray) : ByteArray := if useB ah bh = true then bh else ah
def both (al ah bl bh : ByteArray) : ByteArray × ByteArray × Bool :=
  if rok al ah && rok bl bh && rok (lo2 al bl) (hi2 ah bh) then (lo2 al bl, hi2 ah bh, true) else (⟨#[]⟩, ⟨#[]⟩, false)
theorem impl_both (al ah bl bh : ByteArray) (k : Nat) (hk : 4 ≤ k) : impl_RangeBoth.f k al ah bl bh = some (both al ah bl bh) := by
  obtain ⟨m, rfl⟩ : ∃ m, k = m + 2 := ⟨k - 2, by omega⟩
  unfold impl_RangeBoth.f both
  simp only [imp_range_eq, range_rok, Option.bind_some]
  have e : smx al bl = lo2 al bl := rfl
  cases ha : rok al ah with
  | false => simp [impl_RangeBoth.j0]
  | true =>
    cases hb : rok bl bh with
    | false => simp [impl_RangeBoth.j0]
    | true =>
      simp only [if_true, Bool.not_true, impl_RangeBoth.j0, Bool.true_and, e, imp_range_eq, range_rok, Option.bind_some, impl_RangeBoth.j1]
      by_cases h1 : ah.toList = []
      · simp only [hi2, useB, h1]
        cases hx : rok (lo2 al bl) bh <;> simp [hx]
      · by_cases h2 : bh.toList = []
        · simp only [hi2, useB, h1, h2]
          cases hx : rok (lo2 al bl) ah <;> simp [hx, h1]
        · cases h3 : Op.bytesLess bh.toList ah.toList
          · simp only [hi2, useB, h3]
            cases hx : rok (lo2 al bl) ah <;> simp [hx, h1, h2]
          · simp only [hi2, useB, h3]
            cases hx : rok (lo2 al bl) bh <;> simp [hx, h1, h2]
theorem spec_both (al ah bl bh : ByteArray) (k : Nat) (hk : 4 ≤ k) : spec_RangeBoth.f k al ah bl bh = some (both al ah bl bh) := by
  obtain ⟨m, rfl⟩ : ∃ m, k = m + 3 := ⟨k - 3, by omega⟩
  unfold spec_RangeBoth.f both
  simp only [range_rok, Option.bind_some]
  have l : (if Op.bytesLess al.toList bl.toList = true then spec_RangeBoth.j1 (m + 2) bl ah bl bh else spec_RangeBoth.j1 (m + 2) al ah bl bh) = spec_RangeBoth.j1 (m + 2) (lo2 al bl) ah bl bh := by
    unfold lo2
    split <;> rfl
  cases ha : rok al ah with
  | false => simp [spec_RangeBoth.j0]
  | true =>
    cases hb : rok bl bh with
    | false => simp [spec_RangeBoth.j0]
    | true =>
      simp only [if_true, Bool.not_true, spec_RangeBoth.j0, Bool.true_and]
      simp only [Bool.false_eq_true, if_false]
      rw [l]
      simp only [spec_RangeBoth.j1, spec_RangeBoth.j2, range_rok, Option.bind_some]
      by_cases h1 : ah.toList = []
      · simp only [hi2, useB, h1]
        cases hx : rok (lo2 al bl) bh <;> simp [hx]
      · by_cases h2 : bh.toList = []
        · simp only [hi2, useB, h1, h2]
          cases hx : rok (lo2 al bl) ah <;> simp [hx, h1]
        · cases h3 : Op.bytesLess bh.toList ah.toList
          · simp only [hi2, useB, h3]
            cases hx : rok (lo2 al bl) ah <;> simp [hx, h1, h2]
          · simp only [hi2, useB, h3]
            cases hx : rok (lo2 al bl) bh <;> simp [hx, h1, h2]
def kok (k : ByteArray) : Bool := decide (1 ≤ k.size) && decide (k.size ≤ 16)
def hasB (l h k : ByteArray) : Bool := !Op.bytesLess k.toList l.toList && (h.toList == [] || Op.bytesLess k.toList h.toList)
theorem kok_some (k : ByteArray) : impl_KeyOk.f k = some (kok k) := by
  unfold impl_KeyOk.f impl_within.f kok
  by_cases h1 : (k.size : Int) ≥ 1
  · rw [if_pos h1]
    have e1 : 1 ≤ k.size := by omega
    by_cases h2 : k.size ≤ 16
    · have : (k.size : Int) ≤ 16 := by omega
      simp [e1, h2, this]
    · have : ¬ (k.size : Int) ≤ 16 := by omega
      simp [h2, this]
  · rw [if_neg h1]
    have e1 : ¬ 1 ≤ k.size := by omega
    simp [e1]
theorem isE {l : List UInt8} (h : ¬ l = []) : l.isEmpty = false := by simp [h]
theorem has_some (l h k : ByteArray) : impl_RangeHas.f l h k = some (rok l h && kok k && hasB l h k) := by
  unfold impl_RangeHas.f impl_Range_has.f hasB
  simp only [imp_range_eq, range_rok, kok_some, Option.bind_some]
  cases rok l h
  · simp
  · cases kok k
    · simp
    · cases h3 : Op.bytesLess k.toList l.toList
      · by_cases h4 : h.toList = []
        · simp [h4]
        · have := isE h4
          simp [h4, this]
      · simp
def inB (al ah bl bh : ByteArray) : Bool := !Op.bytesLess al.toList bl.toList && (bh.toList == [] || (!(ah.toList == []) && !Op.bytesLess bh.toList ah.toList))
theorem in_some (al ah bl bh : ByteArray) : impl_RangeIn.f al ah bl bh = some (rok al ah && rok bl bh && inB al ah bl bh) := by
  unfold impl_RangeIn.f inB
  simp only [imp_range_eq, range_rok, Option.bind_some]
  cases rok al ah
  · simp
  · cases rok bl bh
    · simp
    · cases h3 : Op.bytesLess al.toList bl.toList
      · by_cases h4 : bh.toList = []
        · simp [h4]
        · have e4 := isE h4
          by_cases h5 : ah.toList = []
          · simp [h4, e4, h5]
          · have e5 := isE h5
            simp [h4, e4, h5, e5]
      · simp

theorem not_nil_lt {l k : List UInt8} (h : Op.bytesLess k l = true) : l ≠ [] := by
  rintro rfl
  cases k <;> simp [Op.bytesLess] at h
theorem lo_has (a b k : ByteArray) : Op.bytesLess k.toList (lo2 a b).toList = false ↔ (Op.bytesLess k.toList a.toList = false ∧ Op.bytesLess k.toList b.toList = false) := by
  unfold lo2
  cases h : Op.bytesLess a.toList b.toList
  · simp only [Bool.false_eq_true, if_false]
    constructor
    · intro g
      exact ⟨g, bl_le_trans h g⟩
    · exact fun g => g.1
  · simp only [if_true]
    constructor
    · intro g
      exact ⟨bl_le_trans (bl_asymm h) g, g⟩
    · exact fun g => g.2
theorem hi_has (a b k : ByteArray) : ((hi2 a b).toList = [] ∨ Op.bytesLess k.toList (hi2 a b).toList = true) ↔ ((a.toList = [] ∨ Op.bytesLess k.toList a.toList = true) ∧ (b.toList = [] ∨ Op.bytesLess k.toList b.toList = true)) := by
  unfold hi2 useB
  by_cases h1 : a.toList = []
  · simp [h1]
  · by_cases h2 : b.toList = []
    · simp [h1, h2]
    · cases h3 : Op.bytesLess b.toList a.toList
      · simp only [h1, h2, h3, beq_iff_eq, Bool.or_eq_true, Bool.and_eq_true, Bool.not_eq_true', beq_eq_false_iff_ne, ne_eq, not_false_eq_true, true_and, or_self, false_or, Bool.false_eq_true, if_false]
        constructor
        · intro g
          exact ⟨g, bl_lt_le g h3⟩
        · exact fun g => g.1
      · simp only [h1, h2, h3, beq_iff_eq, Bool.or_eq_true, Bool.and_eq_true, Bool.not_eq_true', beq_eq_false_iff_ne, ne_eq, not_false_eq_true, and_self, or_true, false_or, if_true]
        constructor
        · intro g
          exact ⟨bl_trans _ _ _ g h3, g⟩
        · exact fun g => g.2
theorem hasB_iff (l h k : ByteArray) : hasB l h k = true ↔ (Op.bytesLess k.toList l.toList = false ∧ (h.toList = [] ∨ Op.bytesLess k.toList h.toList = true)) := by
  unfold hasB
  simp
theorem both_has (al ah bl bh k : ByteArray) : hasB (lo2 al bl) (hi2 ah bh) k = true ↔ (hasB al ah k = true ∧ hasB bl bh k = true) := by
  rw [hasB_iff, hasB_iff, hasB_iff, lo_has, hi_has]
  exact ⟨fun h => ⟨⟨h.1.1, h.2.1⟩, h.1.2, h.2.2⟩, fun h => ⟨⟨h.1.1, h.2.1⟩, h.1.2, h.2.2⟩⟩
theorem lo_size (a b : ByteArray) (ha : a.size ≤ 17) (hb : b.size ≤ 17) : (lo2 a b).size ≤ 17 := by unfold lo2; split <;> assumption
theorem hi_size (a b : ByteArray) (ha : a.size ≤ 17) (hb : b.size ≤ 17) : (hi2 a b).size ≤ 17 := by unfold hi2; split <;> assumption
theorem has_rok {l h k : ByteArray} (hl : l.size ≤ 17) (hh : h.size ≤ 17) (g : hasB l h k = true) : rok l h = true := by
  rw [hasB_iff] at g
  unfold rok
  simp only [hl, hh, decide_true, Bool.true_and, Bool.or_eq_true, beq_iff_eq]
  rcases g.2 with e | e
  · exact Or.inl e
  · exact Or.inr (bl_le_lt g.1 e)
theorem rok_sizes {a b : ByteArray} (h : rok a b = true) : a.size ≤ 17 ∧ b.size ≤ 17 := by
  unfold rok at h
  simp only [Bool.and_eq_true, decide_eq_true_eq] at h
  exact h.1
theorem lo_ge (a b : ByteArray) : Op.bytesLess (lo2 a b).toList a.toList = false ∧ Op.bytesLess (lo2 a b).toList b.toList = false := by
  unfold lo2
  cases h : Op.bytesLess a.toList b.toList
  · simp [bl_irrefl, h]
  · simp [bl_irrefl, bl_asymm h]
theorem hi_le (a b : ByteArray) : (a.toList = [] ∨ ((hi2 a b).toList ≠ [] ∧ Op.bytesLess a.toList (hi2 a b).toList = false)) ∧ (b.toList = [] ∨ ((hi2 a b).toList ≠ [] ∧ Op.bytesLess b.toList (hi2 a b).toList = false)) := by
  unfold hi2 useB
  by_cases h1 : a.toList = []
  · by_cases h2 : b.toList = [] <;> simp [h1, h2, bl_irrefl]
  · by_cases h2 : b.toList = []
    · simp [h1, h2, bl_irrefl]
    · cases h3 : Op.bytesLess b.toList a.toList
      · simp [h1, h2, h3, bl_irrefl]
      · simp [h1, h2, h3, bl_irrefl, bl_asymm h3]


def at_ (l : List ByteArray) (i : Nat) : ByteArray := l.getD i ByteArray.empty
theorem rd_at (l : List ByteArray) (i : Nat) : rdOf ByteArray.empty l (i : Int) = at_ l i := rfl
def okFrom (l : List ByteArray) : Nat → Nat → Bool
  | 0, _ => true
  | d + 1, i => kok (at_ l i) && (decide (i = 0) || Op.bytesLess (at_ l (i - 1)).toList (at_ l i).toList) && okFrom l d (i + 1)
def sok (l : List ByteArray) : Bool := okFrom l l.length 0 && decide (l.length < 4)
theorem skok_some (k : ByteArray) : spec_KeyOk.f k = some (kok k) := by
  unfold spec_KeyOk.f kok
  by_cases h1 : (k.size : Int) ≥ 1
  · rw [if_pos h1]
    have e1 : 1 ≤ k.size := by omega
    by_cases h2 : k.size ≤ 16
    · have : (k.size : Int) ≤ 16 := by omega
      simp [e1, h2, this]
    · have : ¬ (k.size : Int) ≤ 16 := by omega
      simp [h2, this]
  · rw [if_neg h1]
    have e1 : ¬ 1 ≤ k.size := by omega
    simp [e1]
theorem wrap_pred (i : Nat) (h : 0 < i) (h2 : i ≤ 100000) : wrap64 ((i : Int) - 1) = ((i - 1 : Nat) : Int) := by unfold wrap64; omega
theorem wrap_suc (i : Nat) (h2 : i ≤ 100000) : wrap64 ((i : Int) + 1) = ((i + 1 : Nat) : Int) := by unfold wrap64; omega
theorem impl_splits_loop (l : List ByteArray) (hl : l.length ≤ 1000) (d : Nat) : ∀ (i k : Nat), i + d = l.length → d < k → impl_SplitsOk.l0 k l l (l.length : Int) (i : Int) = some (okFrom l d i && decide (l.length < 4)) := by
  induction d with
  | zero =>
    intro i k hi hk
    obtain ⟨k, rfl⟩ : ∃ m, k = m + 1 := ⟨k - 1, by omega⟩
    rw [impl_SplitsOk.l0, if_neg (by omega)]
    have e : decide ((l.length : Int) < 4) = decide (l.length < 4) := decide_eq_decide.mpr (by omega)
    rw [e]
    rfl
  | succ d ih =>
    intro i k hi hk
    obtain ⟨k, rfl⟩ : ∃ m, k = m + 1 := ⟨k - 1, by omega⟩
    rw [impl_SplitsOk.l0, if_pos (by omega), if_pos (by omega), if_pos (by omega), rd_at, kok_some]
    simp only [Option.bind_some, okFrom]
    cases kok (at_ l i) with
    | false => simp
    | true =>
      simp only [if_true, Bool.true_and]
      by_cases h0 : i = 0
      · subst h0
        rw [if_neg (by omega), wrap_suc 0 (by omega), ih 1 k (by omega) (by omega)]
        simp
      · rw [if_pos (by omega), wrap_pred i (by omega) (by omega), if_pos (by omega), if_pos (by omega), rd_at, wrap_suc i (by omega), ih (i + 1) k (by omega) (by omega)]
        simp only [h0, decide_false, Bool.false_or]
        cases Op.bytesLess (at_ l (i - 1)).toList (at_ l i).toList <;> simp
theorem impl_splits (l : List ByteArray) (hl : l.length ≤ 1000) (k : Nat) (hk : l.length < k) : impl_SplitsOk.f k l = some (sok l) := impl_splits_loop l hl l.length 0 k (by omega) hk
theorem spec_splits_loop (l : List ByteArray) (hl : l.length ≤ 1000) (d : Nat) : ∀ (i k : Nat), i + d = l.length → d < k → spec_SplitsOk.l0 k l l (l.length : Int) (i : Int) = some (okFrom l d i) := by
  induction d with
  | zero =>
    intro i k hi hk
    obtain ⟨k, rfl⟩ : ∃ m, k = m + 1 := ⟨k - 1, by omega⟩
    rw [spec_SplitsOk.l0, if_neg (by omega)]
    rfl
  | succ d ih =>
    intro i k hi hk
    obtain ⟨k, rfl⟩ : ∃ m, k = m + 1 := ⟨k - 1, by omega⟩
    rw [spec_SplitsOk.l0, if_pos (by omega), if_pos (by omega), if_pos (by omega), rd_at, skok_some]
    simp only [Option.bind_some, okFrom]
    cases kok (at_ l i) with
    | false => simp
    | true =>
      simp only [if_true, Bool.true_and]
      by_cases h0 : i = 0
      · subst h0
        rw [if_neg (by omega), wrap_suc 0 (by omega), ih 1 k (by omega) (by omega)]
        simp
      · rw [if_pos (by omega), wrap_pred i (by omega) (by omega), if_pos (by omega), if_pos (by omega), rd_at, wrap_suc i (by omega), ih (i + 1) k (by omega) (by omega)]
        simp only [h0, decide_false, Bool.false_or]
        cases Op.bytesLess (at_ l (i - 1)).toList (at_ l i).toList <;> simp
theorem spec_splits (l : List ByteArray) (hl : l.length ≤ 1000) (k : Nat) (hk : l.length < k) : spec_SplitsOk.f k l = some (sok l) := by
  unfold spec_SplitsOk.f sok
  by_cases h : (l.length : Int) > 3
  · rw [if_pos h]
    have : ¬ l.length < 4 := by omega
    simp [this]
  · rw [if_neg h, show spec_SplitsOk.l0 k l l (l.length : Int) 0 = some (okFrom l l.length 0) from spec_splits_loop l hl l.length 0 k (by omega) hk]
    have : l.length < 4 := by omega
    simp [this]
theorem okFrom_at (l : List ByteArray) (d : Nat) : ∀ i, okFrom l d i = true → ∀ j, i ≤ j → j < i + d → kok (at_ l j) = true ∧ (j = 0 ∨ Op.bytesLess (at_ l (j - 1)).toList (at_ l j).toList = true) := by
  induction d with
  | zero => intro i _ j h1 h2; omega
  | succ d ih =>
    intro i h j h1 h2
    simp only [okFrom, Bool.and_eq_true, Bool.or_eq_true, decide_eq_true_eq] at h
    by_cases e : j = i
    · subst e; exact h.1
    · exact ih (i + 1) h.2 j (by omega) (by omega)
theorem sok_at {l : List ByteArray} (h : sok l = true) : l.length < 4 ∧ ∀ j, j < l.length → kok (at_ l j) = true ∧ (j = 0 ∨ Op.bytesLess (at_ l (j - 1)).toList (at_ l j).toList = true) := by
  unfold sok at h
  simp only [Bool.and_eq_true, decide_eq_true_eq] at h
  exact ⟨h.2, fun j hj => okFrom_at l l.length 0 h.1 j (by omega) (by omega)⟩
/-- the range of a shard -/
def plo (l : List ByteArray) (i : Nat) : ByteArray := if i = 0 then ⟨#[]⟩ else at_ l (i - 1)
def phi (l : List ByteArray) (i : Nat) : ByteArray := if i < l.length then at_ l i else ⟨#[]⟩
def part (l : List ByteArray) (i : Nat) : ByteArray × ByteArray × Bool := if sok l = true then (plo l i, phi l i, true) else (⟨#[]⟩, ⟨#[]⟩, false)
theorem impl_part (l : List ByteArray) (hl : l.length ≤ 1000) (i k : Nat) (hi : i ≤ l.length) (hk : l.length + 2 < k) : impl_PartOf.f k l (i : Int) = some (part l i) := by
  obtain ⟨k, rfl⟩ : ∃ m, k = m + 1 := ⟨k - 1, by omega⟩
  unfold impl_PartOf.f part
  rw [impl_splits l hl _ (by omega)]
  simp only [Option.bind_some]
  cases sok l with
  | false => simp [impl_PartOf.j0]
  | true =>
    have hw : impl_within.f (i : Int) 0 (l.length : Int) = some true := by
      unfold impl_within.f
      rw [if_pos (by omega)]
      simp; omega
    simp only [if_true, hw, Option.bind_some, Bool.not_true, impl_PartOf.j0, Bool.false_eq_true, if_false]
    unfold plo phi
    by_cases h0 : i = 0
    · subst h0
      rw [if_neg (by omega)]
      by_cases h1 : 0 < l.length
      · rw [if_pos (by omega), if_pos (by omega), rd_at]; simp [h1]
      · rw [if_neg (by omega)]; simp [h1]
    · rw [if_pos (by omega), wrap_pred i (by omega) (by omega), if_pos (by omega), if_pos (by omega), rd_at]
      by_cases h1 : i < l.length
      · rw [if_pos (by omega), if_pos (by omega), rd_at]; simp [h0, h1]
      · rw [if_neg (by omega)]; simp [h0, h1]
theorem spec_part (l : List ByteArray) (hl : l.length ≤ 1000) (i k : Nat) (hi : i ≤ l.length) (hk : l.length + 2 < k) : spec_PartOf.f k l (i : Int) = some (part l i) := by
  obtain ⟨k, rfl⟩ : ∃ m, k = m + 1 := ⟨k - 1, by omega⟩
  unfold spec_PartOf.f part
  rw [spec_splits l hl _ (by omega)]
  simp only [Option.bind_some]
  cases sok l with
  | false => simp [spec_PartOf.j0]
  | true =>
    have hw : decide ((i : Int) > (l.length : Int)) = false := decide_eq_false (by omega)
    simp only [if_true]
    rw [if_neg (by omega), hw]
    simp only [spec_PartOf.j0, Bool.false_eq_true, if_false]
    unfold plo phi
    by_cases h0 : i = 0
    · subst h0
      rw [if_neg (by omega)]
      by_cases h1 : 0 < l.length
      · rw [if_pos (by omega), if_pos (by omega), rd_at]; simp [h1]
      · rw [if_neg (by omega)]; simp [h1]
    · rw [if_pos (by omega), wrap_pred i (by omega) (by omega), if_pos (by omega), if_pos (by omega), rd_at]
      by_cases h1 : i < l.length
      · rw [if_pos (by omega), if_pos (by omega), rd_at]; simp [h0, h1]
      · rw [if_neg (by omega)]; simp [h0, h1]
/-- the place of a key: from i on, d places are left -/
def way (l : List ByteArray) (key : ByteArray) : Nat → Nat → Nat
  | 0, i => i
  | d + 1, i => if Op.bytesLess key.toList (at_ l i).toList = true then i else way l key d (i + 1)
theorem route_loop (l : List ByteArray) (hl : l.length ≤ 1000) (key : ByteArray) (d : Nat) : ∀ (i k : Nat), i + d = l.length → d < k → impl_Route.l0 k l key (i : Int) = some ((way l key d i : Nat) : Int) := by
  induction d with
  | zero =>
    intro i k hi hk
    obtain ⟨k, rfl⟩ : ∃ m, k = m + 1 := ⟨k - 1, by omega⟩
    rw [impl_Route.l0, if_neg (by omega)]
    rfl
  | succ d ih =>
    intro i k hi hk
    obtain ⟨k, rfl⟩ : ∃ m, k = m + 1 := ⟨k - 1, by omega⟩
    rw [impl_Route.l0, if_pos (by omega), if_pos (by omega), rd_at, way]
    split
    · rfl
    · rw [wrap_suc i (by omega)]
      exact ih (i + 1) k (by omega) (by omega)
def route (l : List ByteArray) (key : ByteArray) : Int := if sok l && kok key then ((way l key l.length 0 : Nat) : Int) else -1
theorem impl_route (l : List ByteArray) (hl : l.length ≤ 1000) (key : ByteArray) (k : Nat) (hk : l.length + 2 < k) : impl_Route.f k l key = some (route l key) := by
  obtain ⟨k, rfl⟩ : ∃ m, k = m + 1 := ⟨k - 1, by omega⟩
  unfold impl_Route.f route
  rw [impl_splits l hl _ (by omega)]
  simp only [Option.bind_some]
  cases sok l with
  | false => simp [impl_Route.j0]
  | true =>
    simp only [if_true, kok_some, Option.bind_some, Bool.true_and]
    cases kok key with
    | false => simp [impl_Route.j0]
    | true =>
      simp only [Bool.not_true, impl_Route.j0, Bool.false_eq_true, if_false, if_true]
      exact route_loop l hl key l.length 0 k (by omega) (by omega)
theorem shas_some (l h k : ByteArray) : spec_RangeHas.f l h k = some (rok l h && kok k && hasB l h k) := by
  unfold spec_RangeHas.f hasB
  simp only [range_rok, skok_some, Option.bind_some]
  cases rok l h
  · simp
  · cases kok k
    · simp
    · cases h3 : Op.bytesLess k.toList l.toList
      · by_cases h4 : h.toList = []
        · simp [h4]
        · have := isE h4
          simp [h4, this]
      · simp
theorem nil_less {l : ByteArray} (h : l.toList ≠ []) : Op.bytesLess (⟨#[]⟩ : ByteArray).toList l.toList = true := by
  rw [emp_toList_]
  cases e : l.toList with
  | nil => exact absurd e h
  | cons a x => rfl
theorem less_nil (k : ByteArray) : Op.bytesLess k.toList (⟨#[]⟩ : ByteArray).toList = false := by
  rw [emp_toList_]
  cases k.toList <;> rfl
theorem kok_ne {k : ByteArray} (h : kok k = true) : k.toList ≠ [] := by
  intro e
  unfold kok at h
  simp only [Bool.and_eq_true, decide_eq_true_eq] at h
  rw [Lib.toList_data] at e
  have := Lib.size_eq k
  rw [e, List.length_nil] at this
  omega
theorem kok_size {k : ByteArray} (h : kok k = true) : k.size ≤ 16 := by
  unfold kok at h
  simp only [Bool.and_eq_true, decide_eq_true_eq] at h
  exact h.2
/-- what a shard's range has, in terms of where the key's way ends -/
theorem way_le (l : List ByteArray) (key : ByteArray) (d : Nat) : ∀ i, i ≤ way l key d i ∧ way l key d i ≤ i + d := by
  induction d with
  | zero => intro i; simp [way]
  | succ d ih =>
    intro i
    rw [way]
    split
    · omega
    · have := ih (i + 1); omega
theorem way_spec (l : List ByteArray) (key : ByteArray) (d : Nat) : ∀ i, (∀ j, i ≤ j → j < way l key d i → Op.bytesLess key.toList (at_ l j).toList = false) ∧ (way l key d i < i + d → Op.bytesLess key.toList (at_ l (way l key d i)).toList = true) := by
  induction d with
  | zero => intro i; simp only [way]; exact ⟨fun j h1 h2 => by omega, fun h => by omega⟩
  | succ d ih =>
    intro i
    rw [way]
    by_cases h : Op.bytesLess key.toList (at_ l i).toList = true
    · rw [if_pos h]
      exact ⟨fun j h1 h2 => by omega, fun _ => h⟩
    · rw [if_neg h]
      have := ih (i + 1)
      refine ⟨fun j h1 h2 => ?_, fun hlt => this.2 (by omega)⟩
      by_cases e : j = i
      · subst e; simpa using h
      · exact this.1 j (by omega) h2
theorem rise_after {l : List ByteArray} (hs : sok l = true) {key : ByteArray} {i : Nat} (h : Op.bytesLess key.toList (at_ l i).toList = true) (d : Nat) : i + d < l.length → Op.bytesLess key.toList (at_ l (i + d)).toList = true := by
  induction d with
  | zero => intro _; exact h
  | succ d ih =>
    intro hlt
    have a := ih (by omega)
    have b := ((sok_at hs).2 (i + (d + 1)) hlt).2
    rcases b with b | b
    · omega
    · exact bl_trans _ _ _ a b
theorem part_rok {l : List ByteArray} (hs : sok l = true) {i : Nat} (hi : i ≤ l.length) : rok (plo l i) (phi l i) = true := by
  have hl : (plo l i).size ≤ 17 := by
    unfold plo
    split
    · simp [ByteArray.size]
    · have := kok_size ((sok_at hs).2 (i - 1) (by omega)).1; omega
  have hh : (phi l i).size ≤ 17 := by
    unfold phi
    split
    · have := kok_size ((sok_at hs).2 i (by omega)).1; omega
    · simp [ByteArray.size]
  unfold rok
  simp only [hl, hh, decide_true, Bool.true_and, Bool.or_eq_true, beq_iff_eq]
  by_cases h : i < l.length
  · right
    have := (sok_at hs).2 i h
    unfold plo phi
    rw [if_pos h]
    by_cases h0 : i = 0
    · rw [if_pos h0]; exact nil_less (kok_ne this.1)
    · rw [if_neg h0]
      rcases this.2 with e | e
      · exact absurd e h0
      · exact e
  · left
    unfold phi
    rw [if_neg h, emp_toList_]
theorem part_has {l : List ByteArray} (hs : sok l = true) (key : ByteArray) {i : Nat} (hi : i ≤ l.length) : hasB (plo l i) (phi l i) key = decide (i = way l key l.length 0) := by
  have w := way_le l key l.length 0
  have sp := way_spec l key l.length 0
  rw [Bool.eq_iff_iff, hasB_iff, decide_eq_true_eq]
  constructor
  · rintro ⟨h1, h2⟩
    rcases Nat.lt_trichotomy i (way l key l.length 0) with g | g | g
    · exfalso
      have := sp.1 i (by omega) g
      unfold phi at h2
      rw [if_pos (by omega)] at h2
      rcases h2 with h2 | h2
      · exact kok_ne ((sok_at hs).2 i (by omega)).1 h2
      · rw [h2] at this; cases this
    · exact g
    · exfalso
      have := sp.2 (by omega)
      obtain ⟨d, hd⟩ : ∃ d, i - 1 = way l key l.length 0 + d := ⟨i - 1 - way l key l.length 0, by omega⟩
      have r := rise_after hs this d (by omega)
      unfold plo at h1
      rw [if_neg (by omega), hd] at h1
      rw [h1] at r; cases r
  · intro e
    subst e
    constructor
    · unfold plo
      split
      · exact less_nil key
      · exact sp.1 _ (by omega) (by omega)
    · unfold phi
      split
      · rename_i h; exact Or.inr (sp.2 (by omega))
      · left; exact emp_toList_
theorem sroute_loop (l : List ByteArray) (hl : l.length ≤ 1000) (key : ByteArray) (d : Nat) : ∀ (i k : Nat), i + d = l.length + 1 → d + l.length + 4 < k → (sok l = true → kok key = true → i ≤ way l key l.length 0) → spec_Route.l0 k l key (i : Int) = some (route l key) := by
  have w := way_le l key l.length 0
  induction d with
  | zero =>
    intro i k hi hk hw
    obtain ⟨k, rfl⟩ : ∃ m, k = m + 1 := ⟨k - 1, by omega⟩
    rw [spec_Route.l0, if_neg (by omega)]
    unfold route
    cases h1 : sok l
    · simp
    · cases h2 : kok key
      · simp
      · have := hw h1 h2; omega
  | succ d ih =>
    intro i k hi hk hw
    obtain ⟨k, rfl⟩ : ∃ m, k = m + 1 := ⟨k - 1, by omega⟩
    rw [spec_Route.l0, if_pos (by omega), spec_part l hl i k (by omega) (by omega), wrap_suc i (by omega)]
    simp only [Option.bind_some, shas_some]
    unfold part
    cases h1 : sok l with
    | false =>
      simp only [Bool.false_eq_true, if_false]
      exact ih (i + 1) k (by omega) (by omega) (by rw [h1]; intro h; cases h)
    | true =>
      simp only [if_true]
      rw [part_rok h1 (by omega), part_has h1 key (by omega)]
      simp only [Bool.true_and]
      cases h2 : kok key with
      | false =>
        simp only [Bool.false_and, Bool.false_eq_true, if_false]
        exact ih (i + 1) k (by omega) (by omega) (by rw [h2]; intro _ h; cases h)
      | true =>
        simp only [Bool.true_and, decide_eq_true_eq]
        by_cases e : i = way l key l.length 0
        · rw [if_pos e]
          unfold route
          rw [h1, h2, ← e]
          rfl
        · rw [if_neg e]
          exact ih (i + 1) k (by omega) (by omega) (fun _ _ => by have := hw h1 h2; omega)
theorem spec_route (l : List ByteArray) (hl : l.length ≤ 1000) (key : ByteArray) (k : Nat) (hk : 2 * l.length + 5 < k) : spec_Route.f k l key = some (route l key) :=
  sroute_loop l hl key (l.length + 1) 0 k (by omega) (by omega) (by omega)

theorem splits_loop {s : List Int} (hs : s.length ≤ 140737488351232) (ks : List ByteArray) (hks : ks.length ≤ 100) (d : Nat) : ∀ (j k : Nat) (l : List ByteArray) (i h : Int), j + d = ks.length → d < k → Cur s i → l.length ≤ 3 →
    ∃ l' i' h', spec_l02Splits.l0 k l ks (ks.length : Int) (j : Int) s i h = some (l', i', h') ∧ Cur s i' ∧ l'.length ≤ 3 := by
  induction d with
  | zero =>
    intro j k l i h hj hk hi hl
    obtain ⟨k, rfl⟩ : ∃ m, k = m + 1 := ⟨k - 1, by omega⟩
    rw [spec_l02Splits.l0, if_neg (by omega)]
    exact ⟨_, _, _, rfl, hi, hl⟩
  | succ d ih =>
    intro j k l i h hj hk hi hl
    obtain ⟨k, rfl⟩ : ∃ m, k = m + 1 := ⟨k - 1, by omega⟩
    have e : wrap64 ((j : Int) + 1) = ((j + 1 : Nat) : Int) := by unfold wrap64; omega
    rw [spec_l02Splits.l0, if_pos (by omega), if_pos (by omega), if_pos (by omega), e]
    by_cases a : (l.length : Int) < 3
    · rw [if_pos a]
      obtain ⟨z, i3, h3, e3, b1, b2, c3⟩ := below_some hs hi h 2
      rw [e3]
      simp only [Option.bind_some]
      split
      · rw [if_pos (by omega)]
        exact ih (j + 1) k _ _ _ (by omega) (by omega) c3 (by simp; omega)
      · exact ih (j + 1) k _ _ _ (by omega) (by omega) c3 hl
    · rw [if_neg a]
      exact ih (j + 1) k _ _ _ (by omega) (by omega) hi hl
theorem anysplits_some {s : List Int} (hs : s.length ≤ 140737488351232) {i : Int} (hi : Cur s i) (h : Int) (k : Nat) (hk : 20 ≤ k) : ∃ l i' h', spec_l02AnySplits.f k s i h = some (l, i', h') ∧ Cur s i' ∧ l.length ≤ 4 := by
  unfold spec_l02AnySplits.f spec_l02Splits.f
  simp only [Option.bind_some]
  obtain ⟨l, i1, h1, e1, c1, b1⟩ := splits_loop hs [(⟨#[98]⟩ : ByteArray), (⟨#[100]⟩ : ByteArray), (⟨#[104]⟩ : ByteArray), (⟨#[109]⟩ : ByteArray)] (by simp) 4 0 k [] i h (by simp) (by omega) hi (by simp)
  first | rw [e1] | (erw [e1])
  simp only [Option.bind_some]
  obtain ⟨z, i3, h3, e3, b3, b4, c3⟩ := below_some hs c1 h1 8
  rw [e3]
  simp only [Option.bind_some]
  split
  · obtain ⟨x2, i2, h2, e2, c2⟩ := anykey_some hs c3 h3 k (by omega)
    rw [e2]
    simp only [Option.bind_some]
    rw [if_pos (by omega)]
    exact ⟨_, _, _, rfl, c2, by simp; omega⟩
  · exact ⟨_, _, _, rfl, c3, by omega⟩

theorem cut_loops (l : List ByteArray) (hl : l.length ≤ 1000) (rl rh : ByteArray) (hs : sok l = true) (d : Nat) : ∀ (i k : Nat) (acc : List S76), i + d = l.length + 1 → d + l.length + 10 < k → acc.length ≤ i →
    ∃ out, impl_Cut.l0 k l acc (wrap64 ((l.length : Int) + 1)) (i : Int) rl rh = some out ∧ spec_Cut.l0 k l acc (i : Int) rl rh = some out ∧ out.length ≤ l.length + 1 ∧
      ∀ x ∈ out, x ∈ acc ∨ ∃ j : Nat, j ≤ l.length ∧ x.f0 = (j : Int) ∧ both (plo l j) (phi l j) rl rh = (x.f1.f0, x.f1.f1, true) := by
  induction d with
  | zero =>
    intro i k acc hi hk ha
    obtain ⟨k, rfl⟩ : ∃ m, k = m + 1 := ⟨k - 1, by omega⟩
    rw [impl_Cut.l0, spec_Cut.l0, wrap_suc l.length (by omega), if_neg (by omega), if_neg (by omega)]
    exact ⟨_, rfl, rfl, by omega, fun x hx => Or.inl hx⟩
  | succ d ih =>
    intro i k acc hi hk ha
    obtain ⟨k, rfl⟩ : ∃ m, k = m + 1 := ⟨k - 1, by omega⟩
    have e0 := wrap_suc l.length (by omega)
    rw [impl_Cut.l0, spec_Cut.l0, e0, if_pos (by omega), if_pos (by omega), impl_part l hl i k (by omega) (by omega), spec_part l hl i k (by omega) (by omega), wrap_suc i (by omega)]
    simp only [Option.bind_some]
    rw [impl_both _ _ _ _ k (by omega), spec_both _ _ _ _ k (by omega)]
    simp only [Option.bind_some]
    have hp : part l i = (plo l i, phi l i, true) := by unfold part; rw [if_pos hs]
    rw [hp]
    simp only [if_true]
    cases hb : (both (plo l i) (phi l i) rl rh).2.2 with
    | false =>
      simp only [Bool.false_eq_true, if_false]
      rw [← e0]
      exact ih (i + 1) k acc (by omega) (by omega) (by omega)
    | true =>
      simp only [if_true]
      rw [if_pos (by omega), if_pos (by omega), ← e0]
      obtain ⟨out, h1, h2, h3, h4⟩ := ih (i + 1) k (acc ++ [⟨(i : Int), ⟨(both (plo l i) (phi l i) rl rh).1, (both (plo l i) (phi l i) rl rh).2.1⟩⟩]) (by omega) (by omega) (by simp; omega)
      refine ⟨out, h1, h2, h3, fun x hx => ?_⟩
      rcases h4 x hx with g | g
      · rcases List.mem_append.mp g with g | g
        · exact Or.inl g
        · right
          have := List.mem_singleton.mp g
          subst this
          refine ⟨i, by omega, rfl, ?_⟩
          show both (plo l i) (phi l i) rl rh = ((both (plo l i) (phi l i) rl rh).1, (both (plo l i) (phi l i) rl rh).2.1, true)
          rw [← hb]
      · exact Or.inr g
theorem spec_cut_no (l : List ByteArray) (hl : l.length ≤ 1000) (rl rh : ByteArray) (hs : sok l = false) (d : Nat) : ∀ (i k : Nat) (acc : List S76), i + d = l.length + 1 → d + l.length + 10 < k → spec_Cut.l0 k l acc (i : Int) rl rh = some acc := by
  induction d with
  | zero =>
    intro i k acc hi hk
    obtain ⟨k, rfl⟩ : ∃ m, k = m + 1 := ⟨k - 1, by omega⟩
    rw [spec_Cut.l0, if_neg (by omega)]
  | succ d ih =>
    intro i k acc hi hk
    obtain ⟨k, rfl⟩ : ∃ m, k = m + 1 := ⟨k - 1, by omega⟩
    have hp : part l i = (⟨#[]⟩, ⟨#[]⟩, false) := by unfold part; rw [hs]; rfl
    rw [spec_Cut.l0, if_pos (by omega), spec_part l hl i k (by omega) (by omega), wrap_suc i (by omega), hp]
    simp only [Option.bind_some]
    rw [spec_both _ _ _ _ k (by omega)]
    simp only [Option.bind_some, Bool.false_eq_true, if_false]
    exact ih (i + 1) k acc (by omega) (by omega)
theorem cuts (l : List ByteArray) (hl : l.length ≤ 1000) (rl rh : ByteArray) (k : Nat) (hk : 2 * l.length + 20 < k) :
    ∃ out, impl_Cut.f k l rl rh = some out ∧ spec_Cut.f k l rl rh = some out ∧ out.length ≤ l.length + 1 ∧
      ∀ x ∈ out, sok l = true ∧ ∃ j : Nat, j ≤ l.length ∧ x.f0 = (j : Int) ∧ both (plo l j) (phi l j) rl rh = (x.f1.f0, x.f1.f1, true) := by
  unfold impl_Cut.f spec_Cut.f
  simp only [Option.bind_some]
  rw [impl_splits l hl k (by omega)]
  simp only [Option.bind_some]
  cases hs : sok l with
  | false =>
    simp only [Bool.false_eq_true, if_false]
    exact ⟨[], rfl, spec_cut_no l hl rl rh hs (l.length + 1) 0 k [] (by omega) (by omega), by simp, fun x hx => by simp at hx⟩
  | true =>
    simp only [if_true]
    obtain ⟨out, h1, h2, h3, h4⟩ := cut_loops l hl rl rh hs (l.length + 1) 0 k [] (by omega) (by omega) (by simp)
    refine ⟨out, h1, h2, h3, fun x hx => ⟨trivial, ?_⟩⟩
    rcases h4 x hx with g | g
    · simp at g
    · exact g
theorem both_true {al ah bl bh x y : ByteArray} (h : both al ah bl bh = (x, y, true)) : rok al ah = true ∧ rok bl bh = true ∧ rok x y = true ∧ x = lo2 al bl ∧ y = hi2 ah bh := by
  unfold both at h
  split at h
  · rename_i c
    simp only [Bool.and_eq_true] at c
    simp only [Prod.mk.injEq, and_true] at h
    obtain ⟨rfl, rfl⟩ := h
    exact ⟨c.1.1, c.1.2, c.2, rfl, rfl⟩
  · simp at h
theorem both_in {al ah bl bh x y : ByteArray} (h : both al ah bl bh = (x, y, true)) : impl_RangeIn.f x y al ah = some true ∧ impl_RangeIn.f x y bl bh = some true := by
  obtain ⟨r1, r2, r3, rfl, rfl⟩ := both_true h
  have l := lo_ge al bl
  have h := hi_le ah bh
  rw [in_some, in_some, r1, r2, r3]
  unfold inB
  constructor
  · rcases h.1 with g | g
    · simp [l.1, g]
    · simp [l.1, g.1, g.2]
  · rcases h.2 with g | g
    · simp [l.2, g]
    · simp [l.2, g.1, g.2]
theorem part_loop (m : List ByteArray) (hm : m.length ≤ 1000) (rl rh : ByteArray) (out : List S76) (ho : out.length ≤ m.length + 1)
    (hall : ∀ x ∈ out, sok m = true ∧ ∃ j : Nat, j ≤ m.length ∧ x.f0 = (j : Int) ∧ both (plo m j) (phi m j) rl rh = (x.f1.f0, x.f1.f1, true))
    (hc : ∀ k, 2 * m.length + 20 < k → spec_Cut.f k m rl rh = some out) (d : Nat) : ∀ (i k : Nat), i + d = out.length → d + 2 * m.length + 30 < k → laws_FnRoute.l1 k m out out (out.length : Int) (i : Int) rl rh = some true := by
  induction d with
  | zero =>
    intro i k hi hk
    obtain ⟨k, rfl⟩ : ∃ m, k = m + 1 := ⟨k - 1, by omega⟩
    rw [laws_FnRoute.l1, if_neg (by omega), hc k (by omega)]
    simp
  | succ d ih =>
    intro i k hi hk
    obtain ⟨k, rfl⟩ : ∃ m, k = m + 1 := ⟨k - 1, by omega⟩
    have hx : rd_T76 out (i : Int) ∈ out := by
      have hlt : i < out.length := by omega
      have : rd_T76 out (i : Int) = out[i] := by
        simp [rd_T76, rdOf, hlt]
      rw [this]
      exact List.getElem_mem hlt
    obtain ⟨hs, j, hj, e0, eb⟩ := hall _ hx
    rw [laws_FnRoute.l1, if_pos (by omega), if_pos (by omega), if_pos (by omega), wrap_suc i (by omega), e0, impl_part m hm j k hj (by omega)]
    have hp : part m j = (plo m j, phi m j, true) := by unfold part; rw [if_pos hs]
    rw [hp]
    simp only [Option.bind_some]
    rw [(both_in eb).1]
    simp only [Option.bind_some, if_true]
    rw [(both_in eb).2]
    simp only [Option.bind_some, if_true]
    exact ih (i + 1) k (by omega) (by omega)
theorem DRAWS (s : List Int) (hs : s.length ≤ 140737488351232) (k : Nat) (hk : s.length + 30 ≤ k) :
    (∃ a b, spec_DrawRoute.f k s = some (a, b) ∧ a.length ≤ 4) := by
  obtain ⟨h, e0⟩ := new_some s hs k (by omega)
  have c0 : Cur s 0 := ⟨by omega, by omega⟩
  unfold spec_DrawRoute.f
  rw [e0]
  simp only [Option.bind_some]
  obtain ⟨x, i1, h1, e1, c1, b1⟩ := anysplits_some hs c0 h k (by omega)
  rw [e1]
  simp only [Option.bind_some]
  obtain ⟨x2, i2, h2, e2, c2⟩ := anykey_some hs c1 h1 k (by omega)
  rw [e2]
  exact ⟨_, _, rfl, b1⟩
theorem DRAWC (s : List Int) (hs : s.length ≤ 140737488351232) (k : Nat) (hk : s.length + 30 ≤ k) :
    (∃ a b c, spec_DrawCut.f k s = some (a, b, c) ∧ a.length ≤ 4) := by
  obtain ⟨h, e0⟩ := new_some s hs k (by omega)
  have c0 : Cur s 0 := ⟨by omega, by omega⟩
  unfold spec_DrawCut.f
  rw [e0]
  simp only [Option.bind_some]
  obtain ⟨x, i1, h1, e1, c1, b1⟩ := anysplits_some hs c0 h k (by omega)
  rw [e1]
  simp only [Option.bind_some]
  obtain ⟨x2, y2, i2, h2, e2, c2⟩ := anyrange_some hs c1 h1 k (by omega)
  rw [e2]
  exact ⟨_, _, _, rfl, b1⟩
theorem rest (s : List Int) (hs : s.length ≤ 140737488351232) (k : Nat) (hk : s.length + 60 ≤ k) :
    ((spec_DrawCut.f k s).bind fun bt342 => ((impl_Cut.f k bt342.1 bt342.2.1 bt342.2.2).bind fun t348 => (laws_FnRoute.l1 k bt342.1 t348 t348 (t348.length : Int) 0 bt342.2.1 bt342.2.2))) = some true := by
  obtain ⟨m, rl, rh, e, hm⟩ := DRAWC s hs k (by omega)
  rw [e]
  simp only [Option.bind_some]
  obtain ⟨out, h1, h2, h3, h4⟩ := cuts m (by omega) rl rh k (by omega)
  rw [h1]
  simp only [Option.bind_some]
  refine part_loop m (by omega) rl rh out h3 h4 (fun k2 hk2 => ?_) out.length 0 k (by omega) (by omega)
  obtain ⟨out2, g1, g2, g3, g4⟩ := cuts m (by omega) rl rh k2 hk2
  obtain ⟨out3, f1, f2, f3, f4⟩ := cuts m (by omega) rl rh (k + k2) (by omega)
  have a1 := at_rounds (fun k => spec_Cut.mono m rl rh k) (show k ≤ k + k2 by omega) h2
  have a2 := at_rounds (fun k => spec_Cut.mono m rl rh k) (show k2 ≤ k + k2 by omega) g2
  rw [a1] at a2
  rw [g2]
  exact a2.symm
theorem shard_loop (s : List Int) (hs : s.length ≤ 140737488351232) (l : List ByteArray) (hl : l.length ≤ 4) (key : ByteArray) (d : Nat) : ∀ (i k : Nat), i + d = l.length + 1 → s.length + d + 70 ≤ k → laws_FnRoute.l0 k s l key (route l key) (i : Int) = some true := by
  induction d with
  | zero =>
    intro i k hi hk
    obtain ⟨k, rfl⟩ : ∃ m, k = m + 1 := ⟨k - 1, by omega⟩
    rw [laws_FnRoute.l0, if_neg (by omega)]
    exact rest s hs k (by omega)
  | succ d ih =>
    intro i k hi hk
    obtain ⟨k, rfl⟩ : ∃ m, k = m + 1 := ⟨k - 1, by omega⟩
    have go := ih (i + 1) k (by omega) (by omega)
    rw [laws_FnRoute.l0, if_pos (by omega), impl_part l (by omega) i k (by omega) (by omega)]
    simp only [Option.bind_some]
    rw [spec_splits l (by omega) k (by omega), wrap_suc i (by omega), go]
    simp only [Option.bind_some, has_some]
    cases h1 : sok l with
    | false =>
      have hp : part l i = (⟨#[]⟩, ⟨#[]⟩, false) := by unfold part; rw [h1]; rfl
      have hr : route l key = -1 := by unfold route; rw [h1]; rfl
      rw [hp, hr]
      have : ((i : Int) == -1) = false := by rw [beq_eq_false_iff_ne]; omega
      simp [this]
    | true =>
      have hp : part l i = (plo l i, phi l i, true) := by unfold part; rw [if_pos h1]
      rw [hp, part_rok h1 (by omega), part_has h1 key (by omega)]
      unfold route
      rw [h1]
      cases h2 : kok key with
      | false => simp
      | true =>
        simp only [Bool.true_and, if_true]
        by_cases e : i = way l key l.length 0
        · rw [← e]
          simp
        · have : ((i : Int) == ((way l key l.length 0 : Nat) : Int)) = false := by rw [beq_eq_false_iff_ne]; omega
          simp [e, this]

theorem FnRoute : laws_FnRoute.Pure := by
  intro s hm hs hw
  have hs' : s.length ≤ 140737488351232 := by omega
  obtain ⟨l, key, e1, hl⟩ := DRAWS s hs' (s.length + 90) (by omega)
  refine ⟨s.length + 90, ?_⟩
  unfold laws_FnRoute.f
  by_cases h0 : (s.length : Int) > 1048576
  · rw [if_pos h0]
  · rw [if_neg h0, e1]
    simp only [Option.bind_some]
    rw [impl_route l (by omega) key _ (by omega), spec_route l (by omega) key _ (by omega)]
    simp only [Option.bind_some, if_true]
    exact shard_loop s hs' l hl key (l.length + 1) 0 _ (by omega) (by omega)


end Go.Proofs.Ythoiahaedhnigaa.Pure
