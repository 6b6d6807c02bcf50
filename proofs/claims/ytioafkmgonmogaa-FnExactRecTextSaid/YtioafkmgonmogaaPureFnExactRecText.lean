/- The law FnExactRecText in plain Lean: for every record the two functions write the same text. No condition beyond the arguments' kinds. -/
import Derived.Test.YtioafkmgonmogaaPFnExactRecTextx4
import Derived.Test.YtioafkmgonmogaaCells
import Derived.Lib.Strings
namespace Go.Proofs.Ytioafkmgonmogaa.Pure
set_option linter.unusedVariables false
set_option linter.unusedSimpArgs false
open Go.RowKit Go.Proofs.Ytioafkmgonmogaa.PFnExactRecText Go.Proofs.YtioafkmgonmogaaW.PrintWords Go.Proofs.YtioafkmgonmogaaW.PrintLast Go.Proofs.YtioafkmgonmogaaW.PrintMore Cells

theorem toList_nil_size {s : ByteArray} (h : s.toList = ([] : List UInt8)) : s.size = 0 := by
  rw [Lib.toList_data] at h
  rw [Lib.size_eq, h]
  rfl
theorem range_eq (a b : ByteArray) : impl_RangeOk.f a b = spec_RangeOk.f a b := by
  unfold impl_RangeOk.f spec_RangeOk.f
  repeat' split
  all_goals first | rfl | omega
theorem range_some (a b : ByteArray) : ∃ r, spec_RangeOk.f a b = some r := by
  unfold spec_RangeOk.f
  repeat' split
  all_goals exact ⟨_, rfl⟩
theorem reach_eq (a b : ByteArray) : impl_ReachOk.f a b = spec_ReachOk.f a b := by
  unfold impl_ReachOk.f spec_ReachOk.f
  rw [range_eq]
theorem reach_some (a b : ByteArray) : ∃ r, spec_ReachOk.f a b = some r := by
  obtain ⟨r, hr⟩ := range_some a b
  unfold spec_ReachOk.f
  rw [hr]
  simp only [Option.bind_some]
  repeat' split
  all_goals exact ⟨_, rfl⟩
theorem user_eq (a : ByteArray) : impl_UserOk.f a = spec_UserOk.f a := by
  unfold impl_UserOk.f spec_UserOk.f impl_within.f
  repeat' split
  all_goals simp_all
theorem user_some (a : ByteArray) : ∃ r, spec_UserOk.f a = some r := by
  unfold spec_UserOk.f
  repeat' split
  all_goals exact ⟨_, rfl⟩

/-! numbers in base 128, and texts behind their length -/
def varB (n : Nat) : List Int := if n < 128 then [(n : Int)] else ((n % 128 + 128 : Nat) : Int) :: varB (n / 128)
termination_by n
decreasing_by omega
theorem varB_small {n : Nat} (h : n < 128) : varB n = [(n : Int)] := by rw [varB, if_pos h]
theorem varB_big {n : Nat} (h : ¬ n < 128) : varB n = ((n % 128 + 128 : Nat) : Int) :: varB (n / 128) := by rw [varB, if_neg h]
theorem varB_len (k : Nat) : ∀ n : Nat, n < 128 ^ (k + 1) → (varB n).length ≤ k + 1 := by
  induction k with
  | zero => intro n hn; rw [varB_small (by simpa using hn)]; simp
  | succ k ih =>
    intro n hn
    by_cases h : n < 128
    · rw [varB_small h]; simp
    · rw [varB_big h, List.length_cons]
      have := ih (n / 128) (by rw [Nat.pow_succ] at hn; omega)
      omega
theorem tmod_128 (n : Nat) : Int.tmod (n : Int) 128 = ((n % 128 : Nat) : Int) := rfl
theorem tdiv_128 (n : Nat) (h : n ≤ 1099511627775) : wrap64 (Int.tdiv (n : Int) 128) = ((n / 128 : Nat) : Int) := by
  have e : Int.tdiv (n : Int) 128 = ((n / 128 : Nat) : Int) := rfl
  rw [e]
  unfold wrap64
  omega
theorem byte_a (n : Nat) : wrap64 (Int.tmod (n : Int) 128 + 128) % 256 = ((n % 128 + 128 : Nat) : Int) := by rw [tmod_128]; unfold wrap64; omega
theorem byte_b (n : Nat) : wrap64 (128 + Int.tmod (n : Int) 128) % 256 = ((n % 128 + 128 : Nat) : Int) := by rw [tmod_128]; unfold wrap64; omega
theorem byte_c (n : Nat) (h : n < 128) : (n : Int) % 256 = (n : Int) := by omega

theorem vary_loop (k : Nat) : ∀ (n : Nat) (l : List Int), n < 128 ^ (k + 1) → n ≤ 1099511627775 → l.length + k < 100000 → impl_vary.l0 (k + 1) l (n : Int) = some (l ++ varB n) := by
  induction k with
  | zero =>
    intro n l hn hm hl
    have h : n < 128 := by simpa using hn
    rw [impl_vary.l0, if_neg (by omega), if_pos (by omega), byte_c n h, varB_small h]
  | succ k ih =>
    intro n l hn hm hl
    rw [impl_vary.l0]
    by_cases h : n < 128
    · rw [if_neg (by omega), if_pos (by omega), byte_c n h, varB_small h]
    · rw [if_pos (by omega), if_pos (by omega), byte_a, tdiv_128 n hm, ih (n / 128) _ (by rw [Nat.pow_succ] at hn; omega) (by omega) (by simp; omega), varB_big h]
      simp
theorem vary_all (n : Nat) (l : List Int) (hm : n ≤ 1099511627775) (hl : l.length < 90000) (k : Nat) (hk : 6 ≤ k) : impl_vary.f k l (n : Int) = some (l ++ varB n) := by
  unfold impl_vary.f
  exact at_rounds (g := fun k => impl_vary.l0 k l (n : Int)) (fun k => (impl_vary.mono_l k) _ _) hk (vary_loop 5 n l (by omega) hm (by omega))
/-- a text behind its length -/
def txtB (s : ByteArray) : List Int := varB s.size ++ bytesOf s
theorem txtB_len (s : ByteArray) (h : s.size ≤ 10000) : (txtB s).length ≤ 6 + s.size := by
  unfold txtB
  have := varB_len 5 s.size (by omega)
  rw [List.length_append, bytesOf_length]
  omega
theorem impl_text_all (l : List Int) (s : ByteArray) (hl : l.length < 80000) (hs : s.size ≤ 10000) (k : Nat) (hk : 6 ≤ k) : impl_text.f k l s = some (l ++ txtB s) := by
  unfold impl_text.f txtB
  rw [vary_all s.size l (by omega) (by omega) k hk]
  simp only [Option.bind_some]
  have := varB_len 5 s.size (by omega)
  rw [if_pos (by rw [List.length_append]; omega), List.append_assoc]

theorem pv_loop (k : Nat) : ∀ (n : Nat) (l : List Int), n < 128 ^ (k + 1) → n ≤ 1099511627775 → l.length + k + 1 ≤ 4096 → spec_PutVar.l0 (k + 1) (n : Int) l = some (l ++ varB n, true) := by
  induction k with
  | zero =>
    intro n l hn hm hl
    have h : n < 128 := by simpa using hn
    rw [spec_PutVar.l0, if_neg (by omega), if_pos (by omega), byte_c n h, varB_small h]
    simp only [Option.bind_some]
    rw [if_neg (by simp; omega)]
  | succ k ih =>
    intro n l hn hm hl
    rw [spec_PutVar.l0]
    by_cases h : n < 128
    · rw [if_neg (by omega), if_pos (by omega), byte_c n h, varB_small h]
      simp only [Option.bind_some]
      rw [if_neg (by simp; omega)]
    · rw [if_pos (by omega), if_pos (by omega), byte_b, tdiv_128 n hm, ih (n / 128) _ (by rw [Nat.pow_succ] at hn; omega) (by omega) (by simp; omega), varB_big h]
      simp
theorem pv_all (n : Nat) (l : List Int) (hm : n ≤ 1099511627775) (hl : l.length + 6 ≤ 4096) (k : Nat) (hk : 6 ≤ k) : spec_PutVar.f k l (n : Int) = some (l ++ varB n, true) := by
  have e : spec_l01Num.f (n : Int) = some true := by
    unfold spec_l01Num.f
    rw [if_pos (by omega)]
    simp; omega
  have g : spec_PutVar.l0 k (n : Int) l = some (l ++ varB n, true) := at_rounds (g := fun k => spec_PutVar.l0 k (n : Int) l) (fun k => (spec_PutVar.mono_l k) _ _) hk (pv_loop 5 n l (by omega) hm (by omega))
  unfold spec_PutVar.f
  rw [e]
  simp only [Option.bind_some, if_true, List.length_nil, List.nil_append, Nat.zero_add]
  rw [if_pos (by omega)]
  exact g
theorem pt_all (l : List Int) (s : ByteArray) (hl : l.length + 6 + s.size ≤ 4096) (k : Nat) (hk : 6 ≤ k) : spec_PutText.f k l s = some (l ++ txtB s, true) := by
  unfold spec_PutText.f txtB
  rw [pv_all s.size l (by omega) (by omega) k hk]
  simp only [Option.bind_some, if_true]
  have := varB_len 5 s.size (by omega)
  have hlen : (l ++ varB s.size).length = l.length + (varB s.size).length := List.length_append
  have e : wrap64 (4096 - ((l ++ varB s.size).length : Int)) = 4096 - ((l ++ varB s.size).length : Int) := by unfold wrap64; omega
  rw [e, if_neg (by omega), if_pos (by omega), List.append_assoc]

theorem range_sizes {a b : ByteArray} (h : spec_ReachOk.f a b = some true) : a.size ≤ 9 ∧ b.size ≤ 9 := by
  obtain ⟨r, hr⟩ := range_some a b
  unfold spec_ReachOk.f at h
  rw [hr] at h
  simp only [Option.bind_some] at h
  split at h
  · split at h
    · rename_i g
      have := of_decide_eq_true (Option.some.inj h)
      omega
    · simp at h
  · simp at h
theorem user_size {a : ByteArray} (h : spec_UserOk.f a = some true) : a.size ≤ 8 := by
  unfold spec_UserOk.f at h
  split at h
  · have := of_decide_eq_true (Option.some.inj h)
    omega
  · simp at h
theorem rec_some (k : Int) (a b c d : ByteArray) : ∃ r, spec_RecOk.f k a b c d = some r ∧ (r = true → (k = 1 ∧ a.size ≤ 8 ∧ b.size ≤ 20) ∨ (k = 2 ∧ a.size ≤ 8) ∨ ((k = 3 ∨ k = 4) ∧ c.size ≤ 9 ∧ d.size ≤ 9)) := by
  obtain ⟨r, hr⟩ := reach_some c d
  obtain ⟨u, hu⟩ := user_some a
  unfold spec_RecOk.f spec_UvalOk.f
  rw [hr, hu]
  simp only [Option.bind_some]
  by_cases h1 : k = 1
  · rw [if_pos h1]
    cases u with
    | false => exact ⟨_, rfl, fun h => by simp at h⟩
    | true =>
      have := user_size hu
      simp only [if_true]
      split
      · rename_i g
        have := of_decide_eq_true g
        exact ⟨_, rfl, fun _ => Or.inl ⟨h1, by omega, by omega⟩⟩
      · exact ⟨_, rfl, fun h => by simp at h⟩
  · rw [if_neg h1]
    by_cases h2 : k = 2
    · rw [if_pos h2]
      cases u with
      | false => exact ⟨_, rfl, fun h => by simp at h⟩
      | true =>
        have := user_size hu
        simp only [if_true]
        split
        · exact ⟨_, rfl, fun _ => Or.inr (Or.inl ⟨h2, by omega⟩)⟩
        · exact ⟨_, rfl, fun h => by simp at h⟩
    · rw [if_neg h2]
      by_cases h3 : k = 3
      · rw [if_pos h3]
        split
        · split
          · refine ⟨r, rfl, fun h => ?_⟩
            subst h
            have := range_sizes hr
            exact Or.inr (Or.inr ⟨Or.inl h3, this⟩)
          · exact ⟨_, rfl, fun h => by simp at h⟩
        · exact ⟨_, rfl, fun h => by simp at h⟩
      · rw [if_neg h3]
        by_cases h4 : k = 4
        · rw [if_pos h4]
          split
          · split
            · refine ⟨r, rfl, fun h => ?_⟩
              subst h
              have := range_sizes hr
              exact Or.inr (Or.inr ⟨Or.inr h4, this⟩)
            · exact ⟨_, rfl, fun h => by simp at h⟩
          · exact ⟨_, rfl, fun h => by simp at h⟩
        · rw [if_neg h4]
          exact ⟨_, rfl, fun h => by simp at h⟩
theorem rec_eq (k : Int) (a b c d : ByteArray) : impl_RecOk.f k a b c d = spec_RecOk.f k a b c d := by
  unfold impl_RecOk.f spec_RecOk.f
  rw [reach_eq, user_eq]
  rfl
/-- what a right record is written as -/
def recB (k : Int) (a b c d : ByteArray) : List Int :=
  if k = 1 then 119 :: (txtB a ++ txtB b) else if k = 2 then 103 :: txtB a else if k = 3 then 115 :: (txtB c ++ txtB d) else 120 :: (txtB c ++ txtB d)
theorem impl_recText (k : Int) (a b c d : ByteArray) (n : Nat) (hn : 6 ≤ n) (h : spec_RecOk.f k a b c d = some true) : impl_RecText.f n k a b c d = some (strOfNums (recB k a b c d)) := by
  obtain ⟨r, hr, hf⟩ := rec_some k a b c d
  rw [h] at hr
  have f := hf (Option.some.inj hr).symm
  unfold impl_RecText.f recB
  rw [rec_eq, h]
  simp only [Option.bind_some, if_true]
  rcases f with ⟨rfl, f1, f2⟩ | ⟨rfl, f1⟩ | ⟨f0, f1, f2⟩
  · rw [if_pos rfl, if_pos rfl, impl_text_all [119] a (by simp) (by omega) n hn]
    simp only [Option.bind_some]
    have := txtB_len a (by omega)
    rw [impl_text_all _ b (by simp; omega) (by omega) n hn]
    simp
  · rw [if_neg (by omega), if_pos rfl, if_neg (by omega), if_pos rfl, impl_text_all [103] a (by simp) (by omega) n hn]
    simp
  · have t := txtB_len c (by omega)
    rcases f0 with rfl | rfl
    · rw [if_neg (by omega), if_neg (by omega), if_pos rfl, if_neg (by omega), if_neg (by omega), if_pos rfl, impl_text_all [115] c (by simp) (by omega) n hn]
      simp only [Option.bind_some]
      rw [impl_text_all _ d (by simp; omega) (by omega) n hn]
      simp
    · rw [if_neg (by omega), if_neg (by omega), if_neg (by omega), if_neg (by omega), if_neg (by omega), if_neg (by omega), impl_text_all [120] c (by simp) (by omega) n hn]
      simp only [Option.bind_some]
      rw [impl_text_all _ d (by simp; omega) (by omega) n hn]
      simp
theorem impl_recText_no (k : Int) (a b c d : ByteArray) (n : Nat) (h : spec_RecOk.f k a b c d = some false) : impl_RecText.f n k a b c d = some ⟨#[]⟩ := by
  unfold impl_RecText.f
  rw [rec_eq, h]
  simp

theorem spec_recText (k : Int) (a b c d : ByteArray) (n : Nat) (hn : 6 ≤ n) (h : spec_RecOk.f k a b c d = some true) : spec_RecText.f n k a b c d = some (strOfNums (recB k a b c d)) := by
  obtain ⟨r, hr, hf⟩ := rec_some k a b c d
  rw [h] at hr
  have f := hf (Option.some.inj hr).symm
  unfold spec_RecText.f recB
  rw [h]
  simp only [Option.bind_some, if_true]
  rcases f with ⟨rfl, f1, f2⟩ | ⟨rfl, f1⟩ | ⟨f0, f1, f2⟩
  · have := txtB_len a (by omega)
    rw [if_pos (by omega), if_pos (by omega), if_neg (by omega), pt_all [bt ⟨#[32, 119, 103, 115, 120]⟩ 1] a (by simp; omega) n hn]
    simp only [Option.bind_some, if_true]
    rw [pt_all _ b (by simp; omega) n hn]
    simp only [Option.bind_some]
    rfl
  · rw [if_pos (by omega), if_pos (by omega), if_neg (by omega), pt_all [bt ⟨#[32, 119, 103, 115, 120]⟩ 2] a (by simp; omega) n hn]
    simp only [Option.bind_some]
    rw [if_neg (by omega), if_neg (by omega)]
    first | rfl | (rw [if_pos trivial]; rfl) | (rw [if_pos rfl]; rfl)
  · have t := txtB_len c (by omega)
    rcases f0 with rfl | rfl
    · rw [if_pos (by omega), if_pos (by omega), if_pos (by omega), if_neg (by omega), if_neg (by omega), if_pos rfl, pt_all [bt ⟨#[32, 119, 103, 115, 120]⟩ 3] c (by simp; omega) n hn]
      simp only [Option.bind_some]
      rw [pt_all _ d (by simp; omega) n hn]
      simp only [Option.bind_some]
      rfl
    · rw [if_pos (by omega), if_pos (by omega), if_pos (by omega), if_neg (by omega), if_neg (by omega), if_neg (by omega), pt_all [bt ⟨#[32, 119, 103, 115, 120]⟩ 4] c (by simp; omega) n hn]
      simp only [Option.bind_some]
      rw [pt_all _ d (by simp; omega) n hn]
      simp only [Option.bind_some]
      rfl
theorem spec_recText_no (k : Int) (a b c d : ByteArray) (n : Nat) (h : spec_RecOk.f k a b c d = some false) : spec_RecText.f n k a b c d = some ⟨#[]⟩ := by
  unfold spec_RecText.f
  rw [h]
  simp

theorem FnExactRecText : ∀ (a0_0 : Int) (a0_1 : ByteArray) (a0_2 : ByteArray) (a0_3 : ByteArray) (a0_4 : ByteArray), IntOk a0_0 → StrOk a0_1 → StrOk a0_2 → StrOk a0_3 → StrOk a0_4 → ∃ k, laws_FnExactRecText.f k a0_0 a0_1 a0_2 a0_3 a0_4 = some true := by
  intro a0_0 a0_1 a0_2 a0_3 a0_4 h0 h1 h2 h3 h4
  refine ⟨6, ?_⟩
  have z : ∃ t, laws_szRec.f a0_0 a0_1 a0_2 a0_3 a0_4 1048576 = some t := by
    unfold laws_szRec.f laws_szRange.f
    repeat' split
    all_goals first | exact ⟨_, rfl⟩ | (simp only [Option.bind_some]; split <;> exact ⟨_, rfl⟩)
  obtain ⟨t, ht⟩ := z
  obtain ⟨r, hr, _⟩ := rec_some a0_0 a0_1 a0_2 a0_3 a0_4
  unfold laws_FnExactRecText.f
  rw [ht]
  simp only [Option.bind_some, laws_toRec.f, laws_toRange.f]
  cases r with
  | true =>
    rw [spec_recText _ _ _ _ _ 6 (by omega) hr, impl_recText _ _ _ _ _ 6 (by omega) hr]
    simp
  | false =>
    rw [spec_recText_no _ _ _ _ _ 6 hr, impl_recText_no _ _ _ _ _ 6 hr]
    simp


end Go.Proofs.Ytioafkmgonmogaa.Pure
