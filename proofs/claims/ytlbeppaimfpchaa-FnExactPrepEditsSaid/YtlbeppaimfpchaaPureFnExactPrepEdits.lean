/- The law FnExactPrepEdits in plain Lean: over numbers and byte lists alone, what the printed functions compute is true. -/
import Derived.Test.YtlbeppaimfpchaaPFnExactPrepEditsx14
import Derived.Test.YtlbeppaimfpchaaCells
import Derived.Lib.Strings
namespace Go.Proofs.Ytlbeppaimfpchaa.Pure
set_option linter.unusedVariables false
set_option linter.unusedSimpArgs false
open Go.RowKit Go.Proofs.Ytlbeppaimfpchaa.PFnExactPrepEdits Go.Proofs.YtlbeppaimfpchaaW.PrintWords Go.Proofs.YtlbeppaimfpchaaW.PrintLast Go.Proofs.YtlbeppaimfpchaaW.PrintMore Cells

/-! rows of elements: an index into a list, one step on -/
theorem at_nat {i : Nat} : ((i : Int)).toNat = i := Int.toNat_natCast i
theorem step_nat {i : Nat} (h : i < 9223372036854775807) : wrap64 ((i : Int) + 1) = ((i + 1 : Nat) : Int) := by unfold wrap64; omega
theorem drop_getD {α : Type} (xs : List α) (z : α) (i : Nat) (h : i < xs.length) : xs.drop i = xs.getD i z :: xs.drop (i + 1) := by
  rw [List.getD_eq_getElem?_getD, List.getElem?_eq_getElem h]
  exact List.drop_eq_getElem_cons h
theorem take_set {α : Type} (xs : List α) (i : Nat) (v : α) (h : i < xs.length) : (xs.set i v).take (i + 1) = xs.take i ++ [v] := by
  rw [List.take_succ_eq_append_getElem (by simpa using h)]
  simp only [List.take_set, List.getElem_set_self]
  rw [List.set_eq_of_length_le (by simp; omega)]
theorem all_drop {α : Type} (p : α → Bool) (xs : List α) (z : α) (i : Nat) (h : i < xs.length) : (xs.drop i).all p = (p (xs.getD i z) && (xs.drop (i + 1)).all p) := by
  rw [drop_getD xs z i h]
  rfl

/-! numbers' texts -/
def numText (n : Nat) : List UInt8 := if n < 10 then [UInt8.ofNat (48 + n)] else numText (n / 10) ++ [UInt8.ofNat (48 + n % 10)]
termination_by n
decreasing_by omega

def mkB (l : List UInt8) : ByteArray := ⟨l.toArray⟩
theorem mkB_append (a b : List UInt8) : mkB a ++ mkB b = mkB (a ++ b) := by
  apply ByteArray.ext
  simp [mkB, ByteArray.data_append]
theorem mkB_size (a : List UInt8) : (mkB a).size = a.length := by simp [mkB, ByteArray.size]
theorem mkB_of (s : ByteArray) : s = mkB s.data.toList := by
  apply ByteArray.ext
  simp [mkB]

theorem numText_small {n : Nat} (h : n < 10) : numText n = [UInt8.ofNat (48 + n)] := by rw [numText, if_pos h]
theorem numText_big {n : Nat} (h : ¬ n < 10) : numText n = numText (n / 10) ++ [UInt8.ofNat (48 + n % 10)] := by rw [numText, if_neg h]
theorem numText_len (k : Nat) : ∀ n : Nat, n < 10 ^ (k + 1) → (numText n).length ≤ k + 1 := by
  induction k with
  | zero => intro n hn; rw [numText_small (by simpa using hn)]; simp
  | succ k ih =>
    intro n hn
    by_cases h : n < 10
    · rw [numText_small h]; simp
    · rw [numText_big h, List.length_append, List.length_singleton]
      have := ih (n / 10) (by rw [Nat.pow_succ] at hn; omega)
      omega

theorem digit_one (d : Nat) (h : d < 10) : strOfNums [(wrap64 (48 + (d : Int))) % 256] = mkB [UInt8.ofNat (48 + d)] := by
  have e : wrap64 (48 + (d : Int)) % 256 = ((48 + d : Nat) : Int) := by unfold wrap64; omega
  rw [e]
  rfl
theorem digit_mod (n : Nat) : strOfNums [(wrap64 (48 + Int.tmod (n : Int) 10)) % 256] = mkB [UInt8.ofNat (48 + n % 10)] := by
  have e : Int.tmod (n : Int) 10 = ((n % 10 : Nat) : Int) := rfl
  rw [e, digit_one _ (by omega)]
theorem tdiv_ten (n : Nat) (h : n ≤ 1099511627775) : wrap64 (Int.tdiv (n : Int) 10) = ((n / 10 : Nat) : Int) := by
  have e : Int.tdiv (n : Int) 10 = ((n / 10 : Nat) : Int) := rfl
  rw [e]
  unfold wrap64
  omega


theorem spec_num (k : Nat) : ∀ n : Nat, n < 10 ^ (k + 1) → n ≤ 1099511627775 → k ≤ 100 → spec_NumText.f (k + 1) (n : Int) = some (mkB (numText n)) := by
  induction k with
  | zero =>
    intro n hn hm _
    have h10 : n < 10 := by simpa using hn
    simp only [spec_NumText.f, spec_l01Num.f]
    rw [if_pos (by omega : (n : Int) ≥ 0)]
    simp only [Option.bind_some]
    rw [if_pos (by simp; omega), if_pos (by omega), digit_one n h10, numText_small h10]
  | succ k ih =>
    intro n hn hm hk
    rw [spec_NumText.f, spec_l01Num.f]
    rw [if_pos (by omega : (n : Int) ≥ 0)]
    simp only [Option.bind_some]
    rw [if_pos (by simp; omega)]
    by_cases h10 : n < 10
    · rw [if_pos (by omega), digit_one n h10, numText_small h10]
    · rw [if_neg (by omega), tdiv_ten n hm, ih (n / 10) (by rw [Nat.pow_succ] at hn; omega) (by omega) (by omega)]
      simp only [Option.bind_some]
      have hl := numText_len k (n / 10) (by rw [Nat.pow_succ] at hn; omega)
      rw [digit_mod, mkB_size, mkB_size, if_pos (by simp; omega), mkB_append, ← numText_big h10]

theorem spec_numText (n : Nat) (hm : n ≤ 1099511627775) : spec_NumText.f 14 (n : Int) = some (mkB (numText n)) := spec_num 13 n (by omega) hm (by omega)

theorem impl_num (k : Nat) : ∀ (n : Nat) (out : List UInt8), n < 10 ^ (k + 1) → n ≤ 1099511627775 → out.length + k ≤ 1000 → impl_NumText.l0 (k + 1) (n : Int) (mkB out) = some (mkB (numText n ++ out)) := by
  induction k with
  | zero =>
    intro n out hn hm ho
    have h10 : n < 10 := by simpa using hn
    simp only [impl_NumText.l0]
    rw [if_neg (by omega)]
    simp only [Option.bind_some]
    rw [digit_one n h10, mkB_size, mkB_size, if_pos (by simp; omega), mkB_append, numText_small h10]
  | succ k ih =>
    intro n out hn hm ho
    rw [impl_NumText.l0]
    by_cases h10 : n < 10
    · rw [if_neg (by omega)]
      simp only [Option.bind_some]
      rw [digit_one n h10, mkB_size, mkB_size, if_pos (by simp; omega), mkB_append, numText_small h10]
    · rw [if_pos (by omega)]
      simp only [Option.bind_some]
      rw [digit_mod, mkB_size, mkB_size, if_pos (by simp; omega), mkB_append, tdiv_ten n hm, ih (n / 10) _ (by rw [Nat.pow_succ] at hn; omega) (by omega) (by simp; omega), numText_big h10]
      simp

theorem impl_numText (n : Nat) (hm : n ≤ 1099511627775) : impl_NumText.f 14 (n : Int) = some (mkB (numText n)) := by
  have h : impl_isNum.f (n : Int) = some true := by
    unfold impl_isNum.f impl_within.f
    rw [if_pos (by omega : (n : Int) ≥ 0)]
    simp
    omega
  unfold impl_NumText.f
  rw [h]
  simp only [Option.bind_some, if_true]
  have := impl_num 13 n [] (by omega) hm (by simp)
  simpa [mkB] using this

theorem toList_nil_size {s : ByteArray} (h : s.toList = ([] : List UInt8)) : s.size = 0 := by
  rw [Lib.toList_data] at h
  rw [Lib.size_eq, h]
  rfl
theorem range_eq (a b : ByteArray) : impl_RangeOk.f a b = spec_RangeOk.f a b := by
  unfold impl_RangeOk.f spec_RangeOk.f
  repeat' split
  all_goals first | rfl | omega
theorem range_some (a b : ByteArray) : ∃ r, spec_RangeOk.f a b = some r := by
  unfold spec_RangeOk.f
  repeat' split
  all_goals exact ⟨_, rfl⟩
theorem reach_eq (a b : ByteArray) : impl_ReachOk.f a b = spec_ReachOk.f a b := by
  unfold impl_ReachOk.f spec_ReachOk.f
  rw [range_eq]
theorem reach_some (a b : ByteArray) : ∃ r, spec_ReachOk.f a b = some r := by
  obtain ⟨r, hr⟩ := range_some a b
  unfold spec_ReachOk.f
  rw [hr]
  simp only [Option.bind_some]
  repeat' split
  all_goals exact ⟨_, rfl⟩
theorem user_eq (a : ByteArray) : impl_UserOk.f a = spec_UserOk.f a := by
  unfold impl_UserOk.f spec_UserOk.f impl_within.f
  repeat' split
  all_goals simp_all
theorem user_some (a : ByteArray) : ∃ r, spec_UserOk.f a = some r := by
  unfold spec_UserOk.f
  repeat' split
  all_goals exact ⟨_, rfl⟩

/-! numbers in base 128, and texts behind their length -/
def varB (n : Nat) : List Int := if n < 128 then [(n : Int)] else ((n % 128 + 128 : Nat) : Int) :: varB (n / 128)
termination_by n
decreasing_by omega
theorem varB_small {n : Nat} (h : n < 128) : varB n = [(n : Int)] := by rw [varB, if_pos h]
theorem varB_big {n : Nat} (h : ¬ n < 128) : varB n = ((n % 128 + 128 : Nat) : Int) :: varB (n / 128) := by rw [varB, if_neg h]
theorem varB_len (k : Nat) : ∀ n : Nat, n < 128 ^ (k + 1) → (varB n).length ≤ k + 1 := by
  induction k with
  | zero => intro n hn; rw [varB_small (by simpa using hn)]; simp
  | succ k ih =>
    intro n hn
    by_cases h : n < 128
    · rw [varB_small h]; simp
    · rw [varB_big h, List.length_cons]
      have := ih (n / 128) (by rw [Nat.pow_succ] at hn; omega)
      omega
theorem tmod_128 (n : Nat) : Int.tmod (n : Int) 128 = ((n % 128 : Nat) : Int) := rfl
theorem tdiv_128 (n : Nat) (h : n ≤ 1099511627775) : wrap64 (Int.tdiv (n : Int) 128) = ((n / 128 : Nat) : Int) := by
  have e : Int.tdiv (n : Int) 128 = ((n / 128 : Nat) : Int) := rfl
  rw [e]
  unfold wrap64
  omega
theorem byte_a (n : Nat) : wrap64 (Int.tmod (n : Int) 128 + 128) % 256 = ((n % 128 + 128 : Nat) : Int) := by rw [tmod_128]; unfold wrap64; omega
theorem byte_b (n : Nat) : wrap64 (128 + Int.tmod (n : Int) 128) % 256 = ((n % 128 + 128 : Nat) : Int) := by rw [tmod_128]; unfold wrap64; omega
theorem byte_c (n : Nat) (h : n < 128) : (n : Int) % 256 = (n : Int) := by omega

theorem vary_loop (k : Nat) : ∀ (n : Nat) (l : List Int), n < 128 ^ (k + 1) → n ≤ 1099511627775 → l.length + k < 100000 → impl_vary.l0 (k + 1) l (n : Int) = some (l ++ varB n) := by
  induction k with
  | zero =>
    intro n l hn hm hl
    have h : n < 128 := by simpa using hn
    rw [impl_vary.l0, if_neg (by omega), if_pos (by omega), byte_c n h, varB_small h]
  | succ k ih =>
    intro n l hn hm hl
    rw [impl_vary.l0]
    by_cases h : n < 128
    · rw [if_neg (by omega), if_pos (by omega), byte_c n h, varB_small h]
    · rw [if_pos (by omega), if_pos (by omega), byte_a, tdiv_128 n hm, ih (n / 128) _ (by rw [Nat.pow_succ] at hn; omega) (by omega) (by simp; omega), varB_big h]
      simp
theorem vary_all (n : Nat) (l : List Int) (hm : n ≤ 1099511627775) (hl : l.length < 90000) (k : Nat) (hk : 6 ≤ k) : impl_vary.f k l (n : Int) = some (l ++ varB n) := by
  unfold impl_vary.f
  exact at_rounds (g := fun k => impl_vary.l0 k l (n : Int)) (fun k => (impl_vary.mono_l k) _ _) hk (vary_loop 5 n l (by omega) hm (by omega))
/-- a text behind its length -/
def txtB (s : ByteArray) : List Int := varB s.size ++ bytesOf s
theorem txtB_len (s : ByteArray) (h : s.size ≤ 10000) : (txtB s).length ≤ 6 + s.size := by
  unfold txtB
  have := varB_len 5 s.size (by omega)
  rw [List.length_append, bytesOf_length]
  omega
theorem impl_text_all (l : List Int) (s : ByteArray) (hl : l.length < 80000) (hs : s.size ≤ 10000) (k : Nat) (hk : 6 ≤ k) : impl_text.f k l s = some (l ++ txtB s) := by
  unfold impl_text.f txtB
  rw [vary_all s.size l (by omega) (by omega) k hk]
  simp only [Option.bind_some]
  have := varB_len 5 s.size (by omega)
  rw [if_pos (by rw [List.length_append]; omega), List.append_assoc]

theorem pv_loop (k : Nat) : ∀ (n : Nat) (l : List Int), n < 128 ^ (k + 1) → n ≤ 1099511627775 → l.length + k + 1 ≤ 4096 → spec_PutVar.l0 (k + 1) (n : Int) l = some (l ++ varB n, true) := by
  induction k with
  | zero =>
    intro n l hn hm hl
    have h : n < 128 := by simpa using hn
    rw [spec_PutVar.l0, if_neg (by omega), if_pos (by omega), byte_c n h, varB_small h]
    simp only [Option.bind_some]
    rw [if_neg (by simp; omega)]
  | succ k ih =>
    intro n l hn hm hl
    rw [spec_PutVar.l0]
    by_cases h : n < 128
    · rw [if_neg (by omega), if_pos (by omega), byte_c n h, varB_small h]
      simp only [Option.bind_some]
      rw [if_neg (by simp; omega)]
    · rw [if_pos (by omega), if_pos (by omega), byte_b, tdiv_128 n hm, ih (n / 128) _ (by rw [Nat.pow_succ] at hn; omega) (by omega) (by simp; omega), varB_big h]
      simp
theorem pv_all (n : Nat) (l : List Int) (hm : n ≤ 1099511627775) (hl : l.length + 6 ≤ 4096) (k : Nat) (hk : 6 ≤ k) : spec_PutVar.f k l (n : Int) = some (l ++ varB n, true) := by
  have e : spec_l01Num.f (n : Int) = some true := by
    unfold spec_l01Num.f
    rw [if_pos (by omega)]
    simp; omega
  have g : spec_PutVar.l0 k (n : Int) l = some (l ++ varB n, true) := at_rounds (g := fun k => spec_PutVar.l0 k (n : Int) l) (fun k => (spec_PutVar.mono_l k) _ _) hk (pv_loop 5 n l (by omega) hm (by omega))
  unfold spec_PutVar.f
  rw [e]
  simp only [Option.bind_some, if_true, List.length_nil, List.nil_append, Nat.zero_add]
  rw [if_pos (by omega)]
  exact g
theorem pt_all (l : List Int) (s : ByteArray) (hl : l.length + 6 + s.size ≤ 4096) (k : Nat) (hk : 6 ≤ k) : spec_PutText.f k l s = some (l ++ txtB s, true) := by
  unfold spec_PutText.f txtB
  rw [pv_all s.size l (by omega) (by omega) k hk]
  simp only [Option.bind_some, if_true]
  have := varB_len 5 s.size (by omega)
  have hlen : (l ++ varB s.size).length = l.length + (varB s.size).length := List.length_append
  have e : wrap64 (4096 - ((l ++ varB s.size).length : Int)) = 4096 - ((l ++ varB s.size).length : Int) := by unfold wrap64; omega
  rw [e, if_neg (by omega), if_pos (by omega), List.append_assoc]

theorem range_sizes {a b : ByteArray} (h : spec_ReachOk.f a b = some true) : a.size ≤ 9 ∧ b.size ≤ 9 := by
  obtain ⟨r, hr⟩ := range_some a b
  unfold spec_ReachOk.f at h
  rw [hr] at h
  simp only [Option.bind_some] at h
  split at h
  · split at h
    · rename_i g
      have := of_decide_eq_true (Option.some.inj h)
      omega
    · simp at h
  · simp at h
theorem user_size {a : ByteArray} (h : spec_UserOk.f a = some true) : a.size ≤ 8 := by
  unfold spec_UserOk.f at h
  split at h
  · have := of_decide_eq_true (Option.some.inj h)
    omega
  · simp at h
theorem rec_some (k : Int) (a b c d : ByteArray) : ∃ r, spec_RecOk.f k a b c d = some r ∧ (r = true → (k = 1 ∧ a.size ≤ 8 ∧ b.size ≤ 20) ∨ (k = 2 ∧ a.size ≤ 8) ∨ ((k = 3 ∨ k = 4) ∧ c.size ≤ 9 ∧ d.size ≤ 9)) := by
  obtain ⟨r, hr⟩ := reach_some c d
  obtain ⟨u, hu⟩ := user_some a
  unfold spec_RecOk.f spec_UvalOk.f
  rw [hr, hu]
  simp only [Option.bind_some]
  by_cases h1 : k = 1
  · rw [if_pos h1]
    cases u with
    | false => exact ⟨_, rfl, fun h => by simp at h⟩
    | true =>
      have := user_size hu
      simp only [if_true]
      split
      · rename_i g
        have := of_decide_eq_true g
        exact ⟨_, rfl, fun _ => Or.inl ⟨h1, by omega, by omega⟩⟩
      · exact ⟨_, rfl, fun h => by simp at h⟩
  · rw [if_neg h1]
    by_cases h2 : k = 2
    · rw [if_pos h2]
      cases u with
      | false => exact ⟨_, rfl, fun h => by simp at h⟩
      | true =>
        have := user_size hu
        simp only [if_true]
        split
        · exact ⟨_, rfl, fun _ => Or.inr (Or.inl ⟨h2, by omega⟩)⟩
        · exact ⟨_, rfl, fun h => by simp at h⟩
    · rw [if_neg h2]
      by_cases h3 : k = 3
      · rw [if_pos h3]
        split
        · split
          · refine ⟨r, rfl, fun h => ?_⟩
            subst h
            have := range_sizes hr
            exact Or.inr (Or.inr ⟨Or.inl h3, this⟩)
          · exact ⟨_, rfl, fun h => by simp at h⟩
        · exact ⟨_, rfl, fun h => by simp at h⟩
      · rw [if_neg h3]
        by_cases h4 : k = 4
        · rw [if_pos h4]
          split
          · split
            · refine ⟨r, rfl, fun h => ?_⟩
              subst h
              have := range_sizes hr
              exact Or.inr (Or.inr ⟨Or.inr h4, this⟩)
            · exact ⟨_, rfl, fun h => by simp at h⟩
          · exact ⟨_, rfl, fun h => by simp at h⟩
        · rw [if_neg h4]
          exact ⟨_, rfl, fun h => by simp at h⟩
theorem rec_eq (k : Int) (a b c d : ByteArray) : impl_RecOk.f k a b c d = spec_RecOk.f k a b c d := by
  unfold impl_RecOk.f spec_RecOk.f
  rw [reach_eq, user_eq]
  rfl
/-- what a right record is written as -/
def recB (k : Int) (a b c d : ByteArray) : List Int :=
  if k = 1 then 119 :: (txtB a ++ txtB b) else if k = 2 then 103 :: txtB a else if k = 3 then 115 :: (txtB c ++ txtB d) else 120 :: (txtB c ++ txtB d)
theorem impl_recText (k : Int) (a b c d : ByteArray) (n : Nat) (hn : 6 ≤ n) (h : spec_RecOk.f k a b c d = some true) : impl_RecText.f n k a b c d = some (strOfNums (recB k a b c d)) := by
  obtain ⟨r, hr, hf⟩ := rec_some k a b c d
  rw [h] at hr
  have f := hf (Option.some.inj hr).symm
  unfold impl_RecText.f recB
  rw [rec_eq, h]
  simp only [Option.bind_some, if_true]
  rcases f with ⟨rfl, f1, f2⟩ | ⟨rfl, f1⟩ | ⟨f0, f1, f2⟩
  · rw [if_pos rfl, if_pos rfl, impl_text_all [119] a (by simp) (by omega) n hn]
    simp only [Option.bind_some]
    have := txtB_len a (by omega)
    rw [impl_text_all _ b (by simp; omega) (by omega) n hn]
    simp
  · rw [if_neg (by omega), if_pos rfl, if_neg (by omega), if_pos rfl, impl_text_all [103] a (by simp) (by omega) n hn]
    simp
  · have t := txtB_len c (by omega)
    rcases f0 with rfl | rfl
    · rw [if_neg (by omega), if_neg (by omega), if_pos rfl, if_neg (by omega), if_neg (by omega), if_pos rfl, impl_text_all [115] c (by simp) (by omega) n hn]
      simp only [Option.bind_some]
      rw [impl_text_all _ d (by simp; omega) (by omega) n hn]
      simp
    · rw [if_neg (by omega), if_neg (by omega), if_neg (by omega), if_neg (by omega), if_neg (by omega), if_neg (by omega), impl_text_all [120] c (by simp) (by omega) n hn]
      simp only [Option.bind_some]
      rw [impl_text_all _ d (by simp; omega) (by omega) n hn]
      simp
theorem impl_recText_no (k : Int) (a b c d : ByteArray) (n : Nat) (h : spec_RecOk.f k a b c d = some false) : impl_RecText.f n k a b c d = some ⟨#[]⟩ := by
  unfold impl_RecText.f
  rw [rec_eq, h]
  simp

theorem spec_recText (k : Int) (a b c d : ByteArray) (n : Nat) (hn : 6 ≤ n) (h : spec_RecOk.f k a b c d = some true) : spec_RecText.f n k a b c d = some (strOfNums (recB k a b c d)) := by
  obtain ⟨r, hr, hf⟩ := rec_some k a b c d
  rw [h] at hr
  have f := hf (Option.some.inj hr).symm
  unfold spec_RecText.f recB
  rw [h]
  simp only [Option.bind_some, if_true]
  rcases f with ⟨rfl, f1, f2⟩ | ⟨rfl, f1⟩ | ⟨f0, f1, f2⟩
  · have := txtB_len a (by omega)
    rw [if_pos (by omega), if_pos (by omega), if_neg (by omega), pt_all [bt ⟨#[32, 119, 103, 115, 120]⟩ 1] a (by simp; omega) n hn]
    simp only [Option.bind_some, if_true]
    rw [pt_all _ b (by simp; omega) n hn]
    simp only [Option.bind_some]
    rfl
  · rw [if_pos (by omega), if_pos (by omega), if_neg (by omega), pt_all [bt ⟨#[32, 119, 103, 115, 120]⟩ 2] a (by simp; omega) n hn]
    simp only [Option.bind_some]
    rw [if_neg (by omega), if_neg (by omega)]
    first | rfl | (rw [if_pos trivial]; rfl) | (rw [if_pos rfl]; rfl)
  · have t := txtB_len c (by omega)
    rcases f0 with rfl | rfl
    · rw [if_pos (by omega), if_pos (by omega), if_pos (by omega), if_neg (by omega), if_neg (by omega), if_pos rfl, pt_all [bt ⟨#[32, 119, 103, 115, 120]⟩ 3] c (by simp; omega) n hn]
      simp only [Option.bind_some]
      rw [pt_all _ d (by simp; omega) n hn]
      simp only [Option.bind_some]
      rfl
    · rw [if_pos (by omega), if_pos (by omega), if_pos (by omega), if_neg (by omega), if_neg (by omega), if_neg (by omega), pt_all [bt ⟨#[32, 119, 103, 115, 120]⟩ 4] c (by simp; omega) n hn]
      simp only [Option.bind_some]
      rw [pt_all _ d (by simp; omega) n hn]
      simp only [Option.bind_some]
      rfl
theorem spec_recText_no (k : Int) (a b c d : ByteArray) (n : Nat) (h : spec_RecOk.f k a b c d = some false) : spec_RecText.f n k a b c d = some ⟨#[]⟩ := by
  unfold spec_RecText.f
  rw [h]
  simp

/-! rows of records -/
def cvRec (x : S195) : S113 := ⟨x.f0, x.f1, x.f2, ⟨x.f3.f0, x.f3.f1⟩⟩
theorem szRec_some (a : Int) (b c d e : ByteArray) (m : Int) : ∃ t, laws_szRec.f a b c d e m = some t := by
  unfold laws_szRec.f laws_szRange.f
  repeat' split
  all_goals first | exact ⟨_, rfl⟩ | (simp only [Option.bind_some]; split <;> exact ⟨_, rfl⟩)
theorem szRecS_loop (l : List (S195)) (hl : l.length ≤ 9223372036854775807) : ∀ (k i : Nat) (m : Int), i ≤ l.length → l.length - i < k → ∃ t, laws_szRecS.l0 k l m (i : Int) = some t := by
  intro k
  induction k with
  | zero => intro i m hi hk; omega
  | succ k ih =>
    intro i m hi hk
    unfold laws_szRecS.l0
    by_cases h : i < l.length
    · obtain ⟨t, ht⟩ := szRec_some (rd_T195 l i).f0 (rd_T195 l i).f1 (rd_T195 l i).f2 (rd_T195 l i).f3.f0 (rd_T195 l i).f3.f1 m
      rw [if_pos (by omega), if_pos (by omega), ht, step_nat (by omega)]
      simp only [Option.bind_some]
      split
      · exact ⟨_, rfl⟩
      · exact ih (i + 1) t (by omega) (by omega)
    · rw [if_neg (by omega)]
      exact ⟨_, rfl⟩
/-- its size is a number; and a row that is not too large has no more elements than was left -/
theorem szRecS_some (l : List (S195)) (hl : l.length ≤ 9223372036854775807) (m : Int) (h0 : 0 ≤ m) (h1 : m ≤ 1048576) (k : Nat) (hk : l.length < k ∨ 1048576 < k) : ∃ t, laws_szRecS.f k l m = some t ∧ (¬ t < 0 → (l.length : Int) ≤ m) := by
  unfold laws_szRecS.f
  have e : wrap64 (m - (l.length : Int)) = m - (l.length : Int) := by unfold wrap64; omega
  rw [e]
  split
  · exact ⟨_, rfl, fun h => absurd (by omega) h⟩
  · obtain ⟨t, ht⟩ := szRecS_loop l hl k 0 (m - l.length) (by omega) (by omega)
    exact ⟨t, ht, fun _ => by omega⟩
theorem toRecS_loop (l : List (S195)) (hl : l.length ≤ 1048576) : ∀ (k i : Nat) (x : List (S113)), i ≤ l.length → l.length - i < k → x.length = l.length → laws_toRecS.l0 k l x (i : Int) = some (x.take i ++ (l.drop i).map cvRec) := by
  intro k
  induction k with
  | zero => intro i x hi hk; omega
  | succ k ih =>
    intro i x hi hk hx
    unfold laws_toRecS.l0
    by_cases h : i < l.length
    · rw [if_pos (by omega), if_pos (by omega)]
      simp only [laws_toRec.f, laws_toRange.f, Option.bind_some]
      rw [if_pos (by omega), step_nat (by omega), at_nat, ih (i + 1) _ (by omega) (by omega) (by simpa using hx), take_set _ _ _ (by omega), drop_getD l z195 i h]
      simp [rd_T195, cvRec]
    · rw [if_neg (by omega)]
      have : i = l.length := by omega
      subst this
      simp [← hx]
theorem toRecS_some (l : List (S195)) (hl : l.length ≤ 1048576) (k : Nat) (hk : 1048576 < k) : laws_toRecS.f k l = some (l.map cvRec) := by
  unfold laws_toRecS.f
  rw [if_pos (by omega), if_pos (by omega)]
  have := toRecS_loop l hl k 0 (List.replicate ((l.length : Int) : Int).toNat z113) (by omega) (by omega) (by simp)
  simpa using this
theorem eqRec_self (a : Int) (b c d e : ByteArray) : laws_eqRec.f a b c d e a b c d e = some true := by
  simp [laws_eqRec.f, laws_eqRange.f]
theorem eqRecS_loop (l : List (S113)) (hl : l.length ≤ 1048576) : ∀ (k i : Nat), i ≤ l.length → l.length - i < k → laws_eqRecS.l0 k l l (i : Int) = some true := by
  intro k
  induction k with
  | zero => intro i hi hk; omega
  | succ k ih =>
    intro i hi hk
    unfold laws_eqRecS.l0
    by_cases h : i < l.length
    · rw [if_pos (by omega), if_pos (by omega), if_pos (by omega), eqRec_self]
      simp only [Option.bind_some, if_true]
      rw [step_nat (by omega)]
      exact ih (i + 1) (by omega) (by omega)
    · rw [if_neg (by omega)]
theorem eqRecS_self (l : List (S113)) (hl : l.length ≤ 1048576) (k : Nat) (hk : 1048576 < k) : laws_eqRecS.f k l l = some true := by
  unfold laws_eqRecS.f
  rw [if_pos rfl]
  exact eqRecS_loop l hl k 0 (by omega) (by omega)

/-! a prepared transaction is right -/
def recGood (x : S113) : Bool := (spec_RecOk.f x.f0 x.f1 x.f2 x.f3.f0 x.f3.f1).getD false
theorem recGood_of (x : S113) : spec_RecOk.f x.f0 x.f1 x.f2 x.f3.f0 x.f3.f1 = some (recGood x) := by
  obtain ⟨r, hr, _⟩ := rec_some x.f0 x.f1 x.f2 x.f3.f0 x.f3.f1
  unfold recGood
  rw [hr]
  rfl
def txGood (a b c : Int) : Bool := decide (0 ≤ a ∧ a ≤ 7 ∧ 1 ≤ b ∧ b ≤ 999 ∧ 1 ≤ c ∧ c ≤ 999)
def prepGood (a b c : Int) (l : List (S113)) : Bool := txGood a b c && (decide (l.length ≤ 16) && l.all recGood)
theorem specPrep_loop (l : List (S113)) (hl : l.length ≤ 16) : ∀ (k i : Nat), i ≤ l.length → l.length - i < k → spec_PrepOk.l0 k l (l.length : Int) (i : Int) = some ((l.drop i).all recGood) := by
  intro k
  induction k with
  | zero => intro i hi hk; omega
  | succ k ih =>
    intro i hi hk
    unfold spec_PrepOk.l0
    by_cases h : i < l.length
    · rw [if_pos (by omega), if_pos (by omega), if_pos (by omega), recGood_of, step_nat (by omega), all_drop _ l z113 i h]
      simp only [Option.bind_some, rd_T113, at_nat]
      rw [ih (i + 1) (by omega) (by omega)]
      cases recGood (l.getD i z113) <;> simp
    · rw [if_neg (by omega)]
      have : i = l.length := by omega
      subst this
      simp
theorem specTx_is (a b c : Int) : spec_TxOk.f a b c = some (txGood a b c) := by
  unfold spec_TxOk.f txGood
  repeat' split
  all_goals (congr 1; first | (rw [eq_comm, decide_eq_false_iff_not]; omega) | (rw [decide_eq_decide]; omega))
theorem implTx_is (a b c : Int) : impl_TxOk.f a b c = some (txGood a b c) := by
  have e : impl_TxOk.f a b c = spec_TxOk.f a b c := by
    unfold impl_TxOk.f spec_TxOk.f impl_within.f
    by_cases h0 : a ≥ 0
    · by_cases h1 : a ≤ 7
      · by_cases h2 : b ≥ 1
        · by_cases h3 : b ≤ 999
          · by_cases h4 : c ≥ 1 <;> simp [h0, h1, h2, h3, h4]
          · simp [h0, h1, h2, h3]
        · simp [h0, h1, h2]
      · simp [h0, h1]
    · simp [h0]
  rw [e, specTx_is]
theorem specPrep_is (a b c : Int) (l : List (S113)) (k : Nat) (hk : 18 < k) : spec_PrepOk.f k a b c l = some (prepGood a b c l) := by
  obtain ⟨k, rfl⟩ : ∃ j, k = j + 1 := ⟨k - 1, by omega⟩
  unfold spec_PrepOk.f prepGood
  rw [specTx_is]
  simp only [Option.bind_some]
  rw [spec_PrepOk.j0, spec_PrepOk.j0]
  cases txGood a b c with
  | false => simp
  | true =>
    by_cases h : l.length ≤ 16
    · have := specPrep_loop l h k 0 (by omega) (by omega)
      simp only [List.drop_zero] at this
      rw [if_pos rfl, if_neg (by simp; omega)]
      simpa [h] using this
    · rw [if_pos rfl, if_pos (by simp; omega)]
      simp [h]
theorem anyBad : ∀ l : List (S113), anyP impl_PrepOk.bad l = some (!(l.all recGood))
  | [] => rfl
  | x :: xs => by
    have hb : impl_PrepOk.bad x = some (!(recGood x)) := by
      unfold impl_PrepOk.bad impl_PrepOk_1.f
      rw [rec_eq, recGood_of]
      rfl
    unfold anyP
    rw [hb, anyBad xs]
    cases h : recGood x <;> simp [h]
theorem implPrep_is (a b c : Int) (l : List (S113)) : impl_PrepOk.f a b c l = some (prepGood a b c l) := by
  unfold impl_PrepOk.f prepGood
  rw [implTx_is, anyBad]
  simp only [Option.bind_some]
  cases txGood a b c with
  | false => simp
  | true =>
    by_cases h : l.length ≤ 16
    · rw [if_pos rfl, if_pos (by omega)]
      simp [h]
    · rw [if_pos rfl, if_neg (by omega)]
      simp [h]

/-! a transaction's text, and numbers' texts with more rounds -/
theorem specNum_is (n : Nat) (hm : n ≤ 1099511627775) (k : Nat) (hk : 14 ≤ k) : spec_NumText.f k (n : Int) = some (mkB (numText n)) :=
  at_rounds (g := fun k => spec_NumText.f k (n : Int)) (fun k => spec_NumText.mono _ k) hk (spec_numText n hm)
theorem implNum_is (n : Nat) (hm : n ≤ 1099511627775) (k : Nat) (hk : 14 ≤ k) : impl_NumText.f k (n : Int) = some (mkB (numText n)) :=
  at_rounds (g := fun k => impl_NumText.f k (n : Int)) (fun k => impl_NumText.mono _ k) hk (impl_numText n hm)
def txB (a b c : Int) : ByteArray := mkB (numText a.toNat ++ [46] ++ numText b.toNat ++ [46] ++ numText c.toNat)
theorem txGood_of {a b c : Int} (h : txGood a b c = true) : 0 ≤ a ∧ a ≤ 7 ∧ 1 ≤ b ∧ b ≤ 999 ∧ 1 ≤ c ∧ c ≤ 999 := of_decide_eq_true h
theorem txB_size {a b c : Int} (h : txGood a b c = true) : (txB a b c).size ≤ 9 := by
  obtain ⟨r0, r1, r2, r3, r4, r5⟩ := txGood_of h
  have lx := numText_len 0 a.toNat (by omega)
  have ly := numText_len 2 b.toNat (by omega)
  have lz := numText_len 2 c.toNat (by omega)
  unfold txB
  rw [mkB_size]
  simp only [List.length_append, List.length_singleton]
  omega
theorem txText_is {a b c : Int} (h : txGood a b c = true) (k : Nat) (hk : 14 ≤ k) : spec_TxText.f k a b c = some (txB a b c) ∧ impl_TxText.f k a b c = some (txB a b c) := by
  obtain ⟨r0, r1, r2, r3, r4, r5⟩ := txGood_of h
  unfold spec_TxText.f impl_TxText.f
  rw [specTx_is, implTx_is, h]
  obtain ⟨x, rfl⟩ := Int.eq_ofNat_of_zero_le r0
  obtain ⟨y, rfl⟩ := Int.eq_ofNat_of_zero_le (by omega : 0 ≤ b)
  obtain ⟨z, rfl⟩ := Int.eq_ofNat_of_zero_le (by omega : 0 ≤ c)
  simp only [Option.bind_some, if_true]
  rw [specNum_is x (by omega) k hk, specNum_is y (by omega) k hk, specNum_is z (by omega) k hk, implNum_is x (by omega) k hk, implNum_is y (by omega) k hk, implNum_is z (by omega) k hk]
  simp only [Option.bind_some]
  have lx := numText_len 0 x (by omega)
  have ly := numText_len 2 y (by omega)
  have lz := numText_len 2 z (by omega)
  have hd : (⟨#[46]⟩ : ByteArray) = mkB [46] := rfl
  simp only [hd, mkB_append, mkB_size, List.length_append, List.length_singleton]
  rw [if_pos (by omega), if_pos (by omega), if_pos (by omega), if_pos (by omega)]
  exact ⟨rfl, rfl⟩

/-! marks -/
theorem digit_size (x : Int) : (strOfNums [x % 256]).size = 1 := rfl
theorem markLoop : ∀ (j n : Nat) (s : ByteArray), n < 10 ^ j → n ≤ 1099511627775 → s.size + j ≤ 1000 → ∃ t, laws_markText.l0 (j + 1) (n : Int) s = some t := by
  intro j
  induction j with
  | zero =>
    intro n s hn _ hs
    have : n = 0 := by simpa using hn
    subst this
    rw [laws_markText.l0, if_neg (by omega), if_pos (by omega)]
    exact ⟨_, rfl⟩
  | succ j ih =>
    intro n s hn hm hs
    rw [laws_markText.l0]
    by_cases h : n = 0
    · subst h
      rw [if_neg (by omega), if_pos (by omega)]
      exact ⟨_, rfl⟩
    · rw [if_pos (by omega)]
      simp only [Option.bind_some]
      rw [if_pos (by rw [digit_size]; omega), tdiv_ten n hm]
      exact ih (n / 10) _ (by rw [Nat.pow_succ] at hn; omega) (by omega) (by rw [ByteArray.size_append, digit_size]; omega)
theorem mark_some (n : Nat) (hm : n ≤ 1099511627775) : ∃ t, laws_markText.f 14 (n : Int) = some t := by
  unfold laws_markText.f
  split
  · exact ⟨_, rfl⟩
  · exact markLoop 13 n _ (by omega) hm (by show 0 + 13 ≤ 1000; omega)
def mText (n : Nat) : ByteArray := (laws_markText.f 14 (n : Int)).getD ⟨#[]⟩
theorem mText_is (n : Nat) (hm : n ≤ 1099511627775) (k : Nat) (hk : 14 ≤ k) : laws_markText.f k (n : Int) = some (mText n) := by
  obtain ⟨t, ht⟩ := mark_some n hm
  have e : mText n = t := by unfold mText; rw [ht]; rfl
  rw [e]
  exact at_rounds (g := fun k => laws_markText.f k (n : Int)) (fun k => laws_markText.mono _ k) hk ht

theorem markRecS_loop : ∀ (k i m : Nat) (x : List S113), i ≤ x.length → x.length ≤ 1048576 → x.length - i + 15 ≤ k → m + 5 * (x.length - i) ≤ 100000000 →
    ∃ x', laws_markRecS.l0 k x (m : Int) (i : Int) = some (((m + 5 * (x.length - i) : Nat) : Int), x') := by
  intro k
  induction k with
  | zero => intro i m x hi hl hk; omega
  | succ k ih =>
    intro i m x hi hl hk hm
    rw [laws_markRecS.l0]
    by_cases h : i < x.length
    · rw [if_pos (by omega), if_pos (by omega)]
      have g : ∀ y : List S113, y.length = x.length → ∃ x', laws_markRecS.l0 k y ((m + 5 : Nat) : Int) ((i + 1 : Nat) : Int) = some (((m + 5 * (x.length - i) : Nat) : Int), x') := by
        intro y hy
        obtain ⟨x', hx⟩ := ih (i + 1) (m + 5) y (by omega) (by omega) (by omega) (by omega)
        have e : m + 5 + 5 * (y.length - (i + 1)) = m + 5 * (x.length - i) := by omega
        rw [e] at hx
        exact ⟨x', hx⟩
      rw [step_nat (i := m) (by omega), step_nat (i := m + 1) (by omega), step_nat (i := m + 1 + 1) (by omega), step_nat (i := m + 1 + 1 + 1) (by omega), step_nat (i := m + 1 + 1 + 1 + 1) (by omega), step_nat (i := i) (by omega),
        mText_is _ (by omega) k (by omega), mText_is _ (by omega) k (by omega), mText_is _ (by omega) k (by omega), mText_is _ (by omega) k (by omega)]
      simp only [Option.bind_some]
      exact g _ (by simp only [List.length_set])
    · rw [if_neg (by omega)]
      have e : m + 5 * (x.length - i) = m := by omega
      rw [e]
      exact ⟨_, rfl⟩

def mEdit (m : Nat) : S117 := ⟨mText m, mText (m + 1), ((Int.tmod ((m + 1 + 1 : Nat) : Int) 3) == 0)⟩
def mEdits (m : Nat) : Nat → List S117
  | 0 => []
  | n + 1 => mEdit m :: mEdits (m + 3) n
theorem rd_set_edit (x : List S117) (i : Nat) (v : S117) (h : i < x.length) : rd_T117 (x.set ((i : Int)).toNat v) (i : Int) = v := by
  unfold rd_T117
  rw [at_nat, List.getD_eq_getElem?_getD, List.getElem?_set_self h]
  rfl
theorem markEditS_loop : ∀ (k i m : Nat) (x : List S117), i ≤ x.length → x.length ≤ 1048576 → x.length - i + 15 ≤ k → m + 3 * (x.length - i) ≤ 100000000 →
    laws_markEditS.l0 k x (m : Int) (i : Int) = some (((m + 3 * (x.length - i) : Nat) : Int), x.take i ++ mEdits m (x.length - i)) := by
  intro k
  induction k with
  | zero => intro i m x hi hl hk; omega
  | succ k ih =>
    intro i m x hi hl hk hm
    rw [laws_markEditS.l0]
    by_cases h : i < x.length
    · rw [if_pos (by omega), mText_is _ (by omega) k (by omega)]
      rw [Option.bind_some, if_pos (by omega), Option.bind_some, step_nat (i := m) (by omega), step_nat (i := m + 1) (by omega), step_nat (i := m + 1 + 1) (by omega), step_nat (i := i) (by omega), mText_is _ (by omega) k (by omega)]
      rw [Option.bind_some, Option.bind_some]
      rw [rd_set_edit x i _ h, rd_set_edit (x.set _ _) i _ (by simpa using h), List.set_set, List.set_set, at_nat]
      dsimp only
      rw [show (⟨mText m, mText (m + 1), ((Int.tmod ((m + 1 + 1 : Nat) : Int) 3) == 0)⟩ : S117) = mEdit m from rfl, show m + 1 + 1 + 1 = m + 3 from rfl]
      have g := ih (i + 1) (m + 3) (x.set i (mEdit m)) (by rw [List.length_set]; omega) (by rw [List.length_set]; omega) (by rw [List.length_set]; omega) (by rw [List.length_set]; omega)
      rw [List.length_set, take_set _ _ _ h] at g
      have e : x.length - i = (x.length - (i + 1)) + 1 := by omega
      rw [e]
      have e2 : m + 3 + 3 * (x.length - (i + 1)) = m + 3 * (x.length - (i + 1) + 1) := by omega
      rw [e2] at g
      simp only [mEdits]
      rw [List.append_assoc] at g
      exact g
    · rw [if_neg (by omega)]
      have e : x.length - i = 0 := by omega
      have e2 : i = x.length := by omega
      rw [e]
      subst e2
      simp [mEdits]
theorem heldEditS_loop (x : List S117) (hl : x.length ≤ 1048576) : ∀ (k i m : Nat), i ≤ x.length → x.length - i + 15 ≤ k → m + 3 * (x.length - i) ≤ 100000000 → x.drop i = mEdits m (x.length - i) →
    laws_heldEditS.l0 k x (m : Int) (i : Int) = some ((m + 3 * (x.length - i) : Nat) : Int) := by
  intro k
  induction k with
  | zero => intro i m hi hk; omega
  | succ k ih =>
    intro i m hi hk hm hd
    rw [laws_heldEditS.l0]
    by_cases h : i < x.length
    · have e : x.length - i = (x.length - (i + 1)) + 1 := by omega
      rw [drop_getD x z117 i h, e] at hd
      simp only [mEdits, List.cons.injEq] at hd
      have hr : rd_T117 x (i : Int) = mEdit m := by unfold rd_T117; rw [at_nat]; exact hd.1
      rw [if_pos (by omega), if_pos (by omega), step_nat (i := m) (by omega), step_nat (i := m + 1) (by omega), step_nat (i := m + 1 + 1) (by omega), step_nat (i := i) (by omega),
        mText_is _ (by omega) k (by omega), mText_is _ (by omega) k (by omega), hr]
      simp only [Option.bind_some, mEdit, if_true, bne_self_eq_false, Bool.false_eq_true, if_false]
      have g := ih (i + 1) (m + 3) (by omega) (by omega) (by omega) hd.2
      have e2 : m + 3 + 3 * (x.length - (i + 1)) = m + 3 * (x.length - i) := by omega
      rw [e2] at g
      exact g
    · rw [if_neg (by omega)]
      have e : m + 3 * (x.length - i) = m := by omega
      rw [e]
theorem markEdits_held (x : List S117) (hl : x.length ≤ 1048576) (k : Nat) (hk : 1048600 ≤ k) : ∃ q y, laws_markEditS.f k x 1 = some (q, y) ∧ laws_heldEditS.f k y 1 = some q ∧ 0 ≤ q := by
  have h1 := markEditS_loop k 0 1 x (by omega) hl (by omega) (by omega)
  simp only [Nat.sub_zero, List.take_zero, List.nil_append] at h1
  have hlen : ∀ n m, (mEdits m n).length = n := by
    intro n
    induction n with
    | zero => intro m; rfl
    | succ n ih => intro m; simp [mEdits, ih]
  have h2 := heldEditS_loop (mEdits 1 x.length) (by rw [hlen]; exact hl) k 0 1 (by omega) (by rw [hlen]; omega) (by rw [hlen]; omega) (by rw [hlen]; rfl)
  rw [hlen] at h2
  exact ⟨_, _, h1, h2, by omega⟩
theorem eqEdit_self (a b : ByteArray) (c : Bool) : laws_eqEdit.f a b c a b c = some true := by
  simp [laws_eqEdit.f]
theorem eqEditS_self (l : List S117) (hl : l.length ≤ 1048576) (k : Nat) (hk : 1048576 < k) : laws_eqEditS.f k l l = some true := by
  have g : ∀ (k i : Nat), i ≤ l.length → l.length - i < k → laws_eqEditS.l0 k l l (i : Int) = some true := by
    intro k
    induction k with
    | zero => intro i hi hk; omega
    | succ k ih =>
      intro i hi hk
      unfold laws_eqEditS.l0
      by_cases h : i < l.length
      · rw [if_pos (by omega), if_pos (by omega), if_pos (by omega), eqEdit_self]
        simp only [Option.bind_some, if_true]
        rw [step_nat (by omega)]
        exact ih (i + 1) (by omega) (by omega)
      · rw [if_neg (by omega)]
  unfold laws_eqEditS.f
  rw [if_pos rfl]
  exact g k 0 (by omega) (by omega)

/-! the edits of a prepared transaction: both answer the same -/
theorem recText_is (x : S113) (h : recGood x = true) (k : Nat) (hk : 6 ≤ k) : ∃ t, spec_RecText.f k x.f0 x.f1 x.f2 x.f3.f0 x.f3.f1 = some t ∧ impl_RecText.f k x.f0 x.f1 x.f2 x.f3.f0 x.f3.f1 = some t := by
  have hr := recGood_of x
  rw [h] at hr
  exact ⟨_, spec_recText _ _ _ _ _ k hk hr, impl_recText _ _ _ _ _ k hk hr⟩
theorem edits_loop (a b c : Int) (l : List S113) (ht : txGood a b c = true) (hl : l.length ≤ 16) (hg : l.all recGood = true) : ∀ (k i : Nat) (out : List S117), i ≤ l.length → l.length - i + 20 ≤ k → out.length + (l.length - i) ≤ 1000 →
    ∃ r, spec_PrepEdits.l0 k out l (l.length : Int) (i : Int) a b c l = some r ∧ impl_PrepEdits.l0 k out l (l.length : Int) (i : Int) a b c l = some r ∧ r.length = out.length + (l.length - i) + 1 := by
  have hs := txB_size ht
  obtain ⟨r0, r1, _⟩ := txGood_of ht
  have s0 : (⟨#[112]⟩ : ByteArray).size = 1 := rfl
  have s1 : (⟨#[46]⟩ : ByteArray).size = 1 := rfl
  intro k
  induction k with
  | zero => intro i out hi hk; omega
  | succ k ih =>
    intro i out hi hk ho
    obtain ⟨t1, t2⟩ := txText_is ht k (by omega)
    rw [spec_PrepEdits.l0, impl_PrepEdits.l0]
    by_cases h : i < l.length
    · have hx : recGood (rd_T113 l (i : Int)) = true := by
        unfold rd_T113
        rw [at_nat, List.getD_eq_getElem?_getD, List.getElem?_eq_getElem h]
        exact List.all_eq_true.mp hg _ (List.getElem_mem h)
      obtain ⟨t, q1, q2⟩ := recText_is _ hx k (by omega)
      have ln := numText_len 1 i (by omega)
      have en : (mkB (numText i)).size ≤ 2 := by rw [mkB_size]; exact ln
      have key : spec_l08Key.f k a b c (i : Int) = some ((((⟨#[112]⟩ : ByteArray) ++ txB a b c) ++ (⟨#[46]⟩ : ByteArray)) ++ mkB (numText i)) := by
        unfold spec_l08Key.f
        rw [t1, specNum_is i (by omega) k (by omega)]
        simp only [Option.bind_some, ByteArray.size_append, s0, s1]
        rw [if_pos (by omega), if_pos (by omega), if_pos (by omega)]
      rw [if_pos (by omega), if_pos (by omega), if_pos (by omega), if_pos (by omega), if_pos (by omega), if_pos (by omega), key, q1, q2, t2, implNum_is i (by omega) k (by omega)]
      simp only [Option.bind_some, ByteArray.size_append, s0, s1]
      rw [if_pos (by omega), if_pos (by omega), if_pos (by omega), if_pos (by omega), if_pos (by omega), step_nat (by omega)]
      obtain ⟨r, e1, e2, e3⟩ := ih (i + 1) (out ++ [(⟨(((⟨#[112]⟩ : ByteArray) ++ txB a b c) ++ (⟨#[46]⟩ : ByteArray)) ++ mkB (numText i), t, false⟩ : S117)]) (by omega) (by omega) (by simp; omega)
      exact ⟨r, e1, e2, by rw [e3]; simp; omega⟩
    · obtain ⟨y, rfl⟩ := Int.eq_ofNat_of_zero_le r0
      have ln := numText_len 0 y (by omega)
      have en : (mkB (numText y)).size ≤ 1 := by rw [mkB_size]; exact ln
      rw [if_neg (by omega), if_neg (by omega), specNum_is y (by omega) k (by omega), implNum_is y (by omega) k (by omega), t1, t2]
      simp only [Option.bind_some]
      rw [if_pos (by omega), if_pos (by omega)]
      exact ⟨_, rfl, rfl, by simp; omega⟩
theorem prepEdits_is (a b c : Int) (l : List S113) (k : Nat) (hk : 50 ≤ k) : ∃ r, spec_PrepEdits.f k a b c l = some r ∧ impl_PrepEdits.f k a b c l = some r ∧ r.length ≤ 17 := by
  unfold spec_PrepEdits.f impl_PrepEdits.f
  rw [specPrep_is _ _ _ _ k (by omega), implPrep_is]
  simp only [Option.bind_some]
  cases hp : prepGood a b c l with
  | false => exact ⟨[], rfl, rfl, by simp⟩
  | true =>
    unfold prepGood at hp
    simp only [Bool.and_eq_true, decide_eq_true_eq] at hp
    obtain ⟨h1, h2, h3⟩ := hp
    obtain ⟨r, e1, e2, e3⟩ := edits_loop a b c l h1 h2 h3 k 0 [] (by omega) (by omega) (by simp; omega)
    exact ⟨r, e1, e2, by simp at e3; omega⟩

theorem FnExactPrepEdits : ∀ (a0_0 a0_1 a0_2 : Int) (l0_3 : List (S195)), IntOk a0_0 → IntOk a0_1 → IntOk a0_2 → (l0_3.length ≤ 9223372036854775807 ∧ ∀ y ∈ l0_3, (IntOk y.f0 ∧ StrOk y.f1 ∧ StrOk y.f2 ∧ (StrOk y.f3.f0 ∧ StrOk y.f3.f1))) → ∃ k, laws_FnExactPrepEdits.f k a0_0 a0_1 a0_2 l0_3 = some true := by
  intro a b c l _ _ _ hL
  have hl := hL.1
  refine ⟨1048700 + 1, ?_⟩
  generalize hK : 1048700 = K
  obtain ⟨t, ht, hs⟩ := szRecS_some l hl 1048576 (by omega) (by omega) (K + 1) (Or.inr (by omega))
  unfold laws_FnExactPrepEdits.f laws_szPrep.f
  rw [ht]
  simp only [Option.bind_some]
  by_cases h : t < 0
  · rw [if_pos h]
    rfl
  · have hn := hs h
    have tp : ∀ k, 1048576 < k → laws_toPrep.f k a b c l = some (a, b, c, l.map cvRec) := by
      intro k hk
      unfold laws_toPrep.f laws_toTx.f
      rw [toRecS_some l (by omega) k hk]
      rfl
    obtain ⟨r, e1, e2, e3⟩ := prepEdits_is a b c (l.map cvRec) (K + 1) (by omega)
    obtain ⟨r', e1', e2', e3'⟩ := prepEdits_is a b c (l.map cvRec) K (by omega)
    have er : r' = r := by
      have := at_rounds (g := fun k => spec_PrepEdits.f k a b c (l.map cvRec)) (fun k => spec_PrepEdits.mono _ _ _ _ k) (show K ≤ K + 1 by omega) e1'
      rw [e1] at this
      exact (Option.some.inj this).symm
    subst er
    rw [if_neg h, tp _ (by omega)]
    simp only [Option.bind_some]
    rw [if_neg h, e1, e2]
    simp only [Option.bind_some]
    rw [eqEditS_self _ (by omega) _ (by omega)]
    simp only [Option.bind_some, if_true]
    have ep : laws_eqPrep.f (K + 1) a b c (l.map cvRec) a b c (l.map cvRec) = some true := by
      unfold laws_eqPrep.f
      rw [eqRecS_self _ (by simp; omega) (K + 1) (by omega)]
      simp [laws_eqTx.f]
    obtain ⟨x', hx⟩ := markRecS_loop (K + 1) 0 1 (l.map cvRec) (by omega) (by simp; omega) (by simp; omega) (by simp; omega)
    have em : laws_markPrep.f (K + 1) a b c (l.map cvRec) 1 = some (((1 + 5 * ((l.map cvRec).length - 0) : Nat) : Int), x') := by
      unfold laws_markPrep.f laws_markRecS.f
      have hx1 : laws_markRecS.l0 (K + 1) (l.map cvRec) 1 0 = _ := hx
      rw [hx1]
      rfl
    obtain ⟨q, y, m1, m2, m3⟩ := markEdits_held r' (by omega) K (by omega)
    rw [ep, em]
    simp only [Option.bind_some, if_true]
    rw [if_neg (by omega), laws_FnExactPrepEdits.j0]
    simp only [Bool.not_true, Bool.false_eq_true, if_false]
    rw [m1]
    simp only [Option.bind_some]
    rw [m2, tp K (by omega)]
    simp only [Option.bind_some]
    rw [if_neg (by omega), if_pos trivial, e2']
    simp only [Option.bind_some]
    rw [eqEditS_self _ (by omega) _ (by omega)]
    simp only [Option.bind_some, if_true]
    rw [if_neg (by omega)]
    try rfl


end Go.Proofs.Ytlbeppaimfpchaa.Pure
