/- The law FnExactTxText in plain Lean: over numbers and byte lists alone, what the printed functions compute is true. -/
import Derived.Test.YtioafkmgonmogaaPFnExactTxTextx2
import Derived.Test.YtioafkmgonmogaaCells
namespace Go.Proofs.Ytioafkmgonmogaa.Pure
open Go.RowKit Go.Proofs.Ytioafkmgonmogaa.PFnExactTxText Go.Proofs.YtioafkmgonmogaaW.PrintWords Go.Proofs.YtioafkmgonmogaaW.PrintLast Cells

/-! numbers' texts -/
def numText (n : Nat) : List UInt8 := if n < 10 then [UInt8.ofNat (48 + n)] else numText (n / 10) ++ [UInt8.ofNat (48 + n % 10)]
termination_by n
decreasing_by omega

def mkB (l : List UInt8) : ByteArray := ⟨l.toArray⟩
theorem mkB_append (a b : List UInt8) : mkB a ++ mkB b = mkB (a ++ b) := by
  apply ByteArray.ext
  simp [mkB, ByteArray.data_append]
theorem mkB_size (a : List UInt8) : (mkB a).size = a.length := by simp [mkB, ByteArray.size]
theorem mkB_of (s : ByteArray) : s = mkB s.data.toList := by
  apply ByteArray.ext
  simp [mkB]

theorem numText_small {n : Nat} (h : n < 10) : numText n = [UInt8.ofNat (48 + n)] := by rw [numText, if_pos h]
theorem numText_big {n : Nat} (h : ¬ n < 10) : numText n = numText (n / 10) ++ [UInt8.ofNat (48 + n % 10)] := by rw [numText, if_neg h]
theorem numText_len (k : Nat) : ∀ n : Nat, n < 10 ^ (k + 1) → (numText n).length ≤ k + 1 := by
  induction k with
  | zero => intro n hn; rw [numText_small (by simpa using hn)]; simp
  | succ k ih =>
    intro n hn
    by_cases h : n < 10
    · rw [numText_small h]; simp
    · rw [numText_big h, List.length_append, List.length_singleton]
      have := ih (n / 10) (by rw [Nat.pow_succ] at hn; omega)
      omega

theorem digit_one (d : Nat) (h : d < 10) : strOfNums [(wrap64 (48 + (d : Int))) % 256] = mkB [UInt8.ofNat (48 + d)] := by
  have e : wrap64 (48 + (d : Int)) % 256 = ((48 + d : Nat) : Int) := by unfold wrap64; omega
  rw [e]
  rfl
theorem digit_mod (n : Nat) : strOfNums [(wrap64 (48 + Int.tmod (n : Int) 10)) % 256] = mkB [UInt8.ofNat (48 + n % 10)] := by
  have e : Int.tmod (n : Int) 10 = ((n % 10 : Nat) : Int) := rfl
  rw [e, digit_one _ (by omega)]
theorem tdiv_ten (n : Nat) (h : n ≤ 1099511627775) : wrap64 (Int.tdiv (n : Int) 10) = ((n / 10 : Nat) : Int) := by
  have e : Int.tdiv (n : Int) 10 = ((n / 10 : Nat) : Int) := rfl
  rw [e]
  unfold wrap64
  omega

theorem spec_num (k : Nat) : ∀ n : Nat, n < 10 ^ (k + 1) → n ≤ 1099511627775 → k ≤ 100 → spec_NumText.f (k + 1) (n : Int) = some (mkB (numText n)) := by
  induction k with
  | zero =>
    intro n hn hm _
    have h10 : n < 10 := by simpa using hn
    simp only [spec_NumText.f, spec_l01Num.f]
    rw [if_pos (by omega : (n : Int) ≥ 0)]
    simp only [Option.bind_some]
    rw [if_pos (by simp; omega), if_pos (by omega), digit_one n h10, numText_small h10]
  | succ k ih =>
    intro n hn hm hk
    rw [spec_NumText.f, spec_l01Num.f]
    rw [if_pos (by omega : (n : Int) ≥ 0)]
    simp only [Option.bind_some]
    rw [if_pos (by simp; omega)]
    by_cases h10 : n < 10
    · rw [if_pos (by omega), digit_one n h10, numText_small h10]
    · rw [if_neg (by omega), tdiv_ten n hm, ih (n / 10) (by rw [Nat.pow_succ] at hn; omega) (by omega) (by omega)]
      simp only [Option.bind_some]
      have hl := numText_len k (n / 10) (by rw [Nat.pow_succ] at hn; omega)
      rw [digit_mod, mkB_size, mkB_size, if_pos (by simp; omega), mkB_append, ← numText_big h10]

theorem impl_num (k : Nat) : ∀ (n : Nat) (out : List UInt8), n < 10 ^ (k + 1) → n ≤ 1099511627775 → out.length + k ≤ 1000 → impl_NumText.l0 (k + 1) (n : Int) (mkB out) = some (mkB (numText n ++ out)) := by
  induction k with
  | zero =>
    intro n out hn hm ho
    have h10 : n < 10 := by simpa using hn
    simp only [impl_NumText.l0]
    rw [if_neg (by omega)]
    simp only [Option.bind_some]
    rw [digit_one n h10, mkB_size, mkB_size, if_pos (by simp; omega), mkB_append, numText_small h10]
  | succ k ih =>
    intro n out hn hm ho
    rw [impl_NumText.l0]
    by_cases h10 : n < 10
    · rw [if_neg (by omega)]
      simp only [Option.bind_some]
      rw [digit_one n h10, mkB_size, mkB_size, if_pos (by simp; omega), mkB_append, numText_small h10]
    · rw [if_pos (by omega)]
      simp only [Option.bind_some]
      rw [digit_mod, mkB_size, mkB_size, if_pos (by simp; omega), mkB_append, tdiv_ten n hm, ih (n / 10) _ (by rw [Nat.pow_succ] at hn; omega) (by omega) (by simp; omega), numText_big h10]
      simp

theorem impl_numText (n : Nat) (hm : n ≤ 1099511627775) : impl_NumText.f 14 (n : Int) = some (mkB (numText n)) := by
  have h : impl_isNum.f (n : Int) = some true := by
    unfold impl_isNum.f impl_within.f
    rw [if_pos (by omega : (n : Int) ≥ 0)]
    simp
    omega
  unfold impl_NumText.f
  rw [h]
  simp only [Option.bind_some, if_true]
  have := impl_num 13 n [] (by omega) hm (by simp)
  simpa [mkB] using this
theorem spec_numText (n : Nat) (hm : n ≤ 1099511627775) : spec_NumText.f 14 (n : Int) = some (mkB (numText n)) := spec_num 13 n (by omega) hm (by omega)

theorem FnExactTxText : ∀ (a0_0 : Int) (a0_1 : Int) (a0_2 : Int), IntOk a0_0 → IntOk a0_1 → IntOk a0_2 → ∃ k, laws_FnExactTxText.f k a0_0 a0_1 a0_2 = some true := by
  intro a0_0 a0_1 a0_2 h0 h1 h2
  refine ⟨14, ?_⟩
  have e : impl_TxOk.f a0_0 a0_1 a0_2 = spec_TxOk.f a0_0 a0_1 a0_2 := by
    unfold impl_TxOk.f spec_TxOk.f impl_within.f
    repeat' split
    all_goals first | (simp_all; done) | (simp_all; omega)
  have s : ∃ b, spec_TxOk.f a0_0 a0_1 a0_2 = some b ∧ (b = true → 0 ≤ a0_0 ∧ a0_0 ≤ 7 ∧ 1 ≤ a0_1 ∧ a0_1 ≤ 999 ∧ 1 ≤ a0_2 ∧ a0_2 ≤ 999) := by
    unfold spec_TxOk.f
    repeat' split
    all_goals first | (simp_all; done) | (simp_all; omega) | simp_all
  obtain ⟨b, hb, hr⟩ := s
  unfold laws_FnExactTxText.f laws_toTx.f
  simp only [Option.bind_some]
  unfold spec_TxText.f impl_TxText.f
  rw [e, hb]
  simp only [Option.bind_some]
  cases b with
  | false => simp
  | true =>
    obtain ⟨r0, r1, r2, r3, r4, r5⟩ := hr rfl
    obtain ⟨x, rfl⟩ := Int.eq_ofNat_of_zero_le r0
    obtain ⟨y, rfl⟩ := Int.eq_ofNat_of_zero_le (by omega : 0 ≤ a0_1)
    obtain ⟨z, rfl⟩ := Int.eq_ofNat_of_zero_le (by omega : 0 ≤ a0_2)
    simp only [if_true]
    rw [spec_numText x (by omega), spec_numText y (by omega), spec_numText z (by omega), impl_numText x (by omega), impl_numText y (by omega), impl_numText z (by omega)]
    simp only [Option.bind_some]
    have lx := numText_len 0 x (by omega)
    have ly := numText_len 2 y (by omega)
    have lz := numText_len 2 z (by omega)
    have hd : (⟨#[46]⟩ : ByteArray) = mkB [46] := rfl
    simp only [hd, mkB_append, mkB_size, List.length_append, List.length_singleton]
    rw [if_pos (by omega), if_pos (by omega), if_pos (by omega), if_pos (by omega)]
    simp

end Go.Proofs.Ytioafkmgonmogaa.Pure
