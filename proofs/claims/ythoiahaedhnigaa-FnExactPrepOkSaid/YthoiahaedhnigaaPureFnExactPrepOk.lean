/- The law FnExactPrepOk in plain Lean: over numbers and byte lists alone, what the printed functions compute is true. -/
import Derived.Test.YthoiahaedhnigaaPFnExactPrepOkx5
import Derived.Test.YthoiahaedhnigaaCells
import Derived.Lib.Strings
namespace Go.Proofs.Ythoiahaedhnigaa.Pure
set_option linter.unusedVariables false
set_option linter.unusedSimpArgs false
open Go.RowKit Go.Proofs.Ythoiahaedhnigaa.PFnExactPrepOk Go.Proofs.YthoiahaedhnigaaW.PrintWords Go.Proofs.YthoiahaedhnigaaW.PrintLast Go.Proofs.YthoiahaedhnigaaW.PrintMore Cells

/-! rows of elements: an index into a list, one step on -/
theorem at_nat {i : Nat} : ((i : Int)).toNat = i := Int.toNat_natCast i
theorem step_nat {i : Nat} (h : i < 9223372036854775807) : wrap64 ((i : Int) + 1) = ((i + 1 : Nat) : Int) := by unfold wrap64; omega
theorem drop_getD {α : Type} (xs : List α) (z : α) (i : Nat) (h : i < xs.length) : xs.drop i = xs.getD i z :: xs.drop (i + 1) := by
  rw [List.getD_eq_getElem?_getD, List.getElem?_eq_getElem h]
  exact List.drop_eq_getElem_cons h
theorem take_set {α : Type} (xs : List α) (i : Nat) (v : α) (h : i < xs.length) : (xs.set i v).take (i + 1) = xs.take i ++ [v] := by
  rw [List.take_succ_eq_append_getElem (by simpa using h)]
  simp only [List.take_set, List.getElem_set_self]
  rw [List.set_eq_of_length_le (by simp; omega)]
theorem all_drop {α : Type} (p : α → Bool) (xs : List α) (z : α) (i : Nat) (h : i < xs.length) : (xs.drop i).all p = (p (xs.getD i z) && (xs.drop (i + 1)).all p) := by
  rw [drop_getD xs z i h]
  rfl

theorem toList_nil_size {s : ByteArray} (h : s.toList = ([] : List UInt8)) : s.size = 0 := by
  rw [Lib.toList_data] at h
  rw [Lib.size_eq, h]
  rfl
theorem range_eq (a b : ByteArray) : impl_RangeOk.f a b = spec_RangeOk.f a b := by
  unfold impl_RangeOk.f spec_RangeOk.f
  repeat' split
  all_goals first | rfl | omega
theorem range_some (a b : ByteArray) : ∃ r, spec_RangeOk.f a b = some r := by
  unfold spec_RangeOk.f
  repeat' split
  all_goals exact ⟨_, rfl⟩
theorem reach_eq (a b : ByteArray) : impl_ReachOk.f a b = spec_ReachOk.f a b := by
  unfold impl_ReachOk.f spec_ReachOk.f
  rw [range_eq]
theorem reach_some (a b : ByteArray) : ∃ r, spec_ReachOk.f a b = some r := by
  obtain ⟨r, hr⟩ := range_some a b
  unfold spec_ReachOk.f
  rw [hr]
  simp only [Option.bind_some]
  repeat' split
  all_goals exact ⟨_, rfl⟩
theorem user_eq (a : ByteArray) : impl_UserOk.f a = spec_UserOk.f a := by
  unfold impl_UserOk.f spec_UserOk.f impl_within.f
  repeat' split
  all_goals simp_all
theorem user_some (a : ByteArray) : ∃ r, spec_UserOk.f a = some r := by
  unfold spec_UserOk.f
  repeat' split
  all_goals exact ⟨_, rfl⟩

theorem range_sizes {a b : ByteArray} (h : spec_ReachOk.f a b = some true) : a.size ≤ 9 ∧ b.size ≤ 9 := by
  obtain ⟨r, hr⟩ := range_some a b
  unfold spec_ReachOk.f at h
  rw [hr] at h
  simp only [Option.bind_some] at h
  split at h
  · split at h
    · rename_i g
      have := of_decide_eq_true (Option.some.inj h)
      omega
    · simp at h
  · simp at h
theorem user_size {a : ByteArray} (h : spec_UserOk.f a = some true) : a.size ≤ 8 := by
  unfold spec_UserOk.f at h
  split at h
  · have := of_decide_eq_true (Option.some.inj h)
    omega
  · simp at h
theorem rec_some (k : Int) (a b c d : ByteArray) : ∃ r, spec_RecOk.f k a b c d = some r ∧ (r = true → (k = 1 ∧ a.size ≤ 8 ∧ b.size ≤ 20) ∨ (k = 2 ∧ a.size ≤ 8) ∨ ((k = 3 ∨ k = 4) ∧ c.size ≤ 9 ∧ d.size ≤ 9)) := by
  obtain ⟨r, hr⟩ := reach_some c d
  obtain ⟨u, hu⟩ := user_some a
  unfold spec_RecOk.f spec_UvalOk.f
  rw [hr, hu]
  simp only [Option.bind_some]
  by_cases h1 : k = 1
  · rw [if_pos h1]
    cases u with
    | false => exact ⟨_, rfl, fun h => by simp at h⟩
    | true =>
      have := user_size hu
      simp only [if_true]
      split
      · rename_i g
        have := of_decide_eq_true g
        exact ⟨_, rfl, fun _ => Or.inl ⟨h1, by omega, by omega⟩⟩
      · exact ⟨_, rfl, fun h => by simp at h⟩
  · rw [if_neg h1]
    by_cases h2 : k = 2
    · rw [if_pos h2]
      cases u with
      | false => exact ⟨_, rfl, fun h => by simp at h⟩
      | true =>
        have := user_size hu
        simp only [if_true]
        split
        · exact ⟨_, rfl, fun _ => Or.inr (Or.inl ⟨h2, by omega⟩)⟩
        · exact ⟨_, rfl, fun h => by simp at h⟩
    · rw [if_neg h2]
      by_cases h3 : k = 3
      · rw [if_pos h3]
        split
        · split
          · refine ⟨r, rfl, fun h => ?_⟩
            subst h
            have := range_sizes hr
            exact Or.inr (Or.inr ⟨Or.inl h3, this⟩)
          · exact ⟨_, rfl, fun h => by simp at h⟩
        · exact ⟨_, rfl, fun h => by simp at h⟩
      · rw [if_neg h3]
        by_cases h4 : k = 4
        · rw [if_pos h4]
          split
          · split
            · refine ⟨r, rfl, fun h => ?_⟩
              subst h
              have := range_sizes hr
              exact Or.inr (Or.inr ⟨Or.inr h4, this⟩)
            · exact ⟨_, rfl, fun h => by simp at h⟩
          · exact ⟨_, rfl, fun h => by simp at h⟩
        · rw [if_neg h4]
          exact ⟨_, rfl, fun h => by simp at h⟩
theorem rec_eq (k : Int) (a b c d : ByteArray) : impl_RecOk.f k a b c d = spec_RecOk.f k a b c d := by
  unfold impl_RecOk.f spec_RecOk.f
  rw [reach_eq, user_eq]
  rfl

/-! rows of records -/
def cvRec (x : S160) : S49 := ⟨x.f0, x.f1, x.f2, ⟨x.f3.f0, x.f3.f1⟩⟩
theorem szRec_some (a : Int) (b c d e : ByteArray) (m : Int) : ∃ t, laws_szRec.f a b c d e m = some t := by
  unfold laws_szRec.f laws_szRange.f
  repeat' split
  all_goals first | exact ⟨_, rfl⟩ | (simp only [Option.bind_some]; split <;> exact ⟨_, rfl⟩)
theorem szRecS_loop (l : List (S160)) (hl : l.length ≤ 9223372036854775807) : ∀ (k i : Nat) (m : Int), i ≤ l.length → l.length - i < k → ∃ t, laws_szRecS.l0 k l m (i : Int) = some t := by
  intro k
  induction k with
  | zero => intro i m hi hk; omega
  | succ k ih =>
    intro i m hi hk
    unfold laws_szRecS.l0
    by_cases h : i < l.length
    · obtain ⟨t, ht⟩ := szRec_some (rd_T160 l i).f0 (rd_T160 l i).f1 (rd_T160 l i).f2 (rd_T160 l i).f3.f0 (rd_T160 l i).f3.f1 m
      rw [if_pos (by omega), if_pos (by omega), ht, step_nat (by omega)]
      simp only [Option.bind_some]
      split
      · exact ⟨_, rfl⟩
      · exact ih (i + 1) t (by omega) (by omega)
    · rw [if_neg (by omega)]
      exact ⟨_, rfl⟩
/-- its size is a number; and a row that is not too large has no more elements than was left -/
theorem szRecS_some (l : List (S160)) (hl : l.length ≤ 9223372036854775807) (m : Int) (h0 : 0 ≤ m) (h1 : m ≤ 1048576) (k : Nat) (hk : l.length < k ∨ 1048576 < k) : ∃ t, laws_szRecS.f k l m = some t ∧ (¬ t < 0 → (l.length : Int) ≤ m) := by
  unfold laws_szRecS.f
  have e : wrap64 (m - (l.length : Int)) = m - (l.length : Int) := by unfold wrap64; omega
  rw [e]
  split
  · exact ⟨_, rfl, fun h => absurd (by omega) h⟩
  · obtain ⟨t, ht⟩ := szRecS_loop l hl k 0 (m - l.length) (by omega) (by omega)
    exact ⟨t, ht, fun _ => by omega⟩
theorem toRecS_loop (l : List (S160)) (hl : l.length ≤ 1048576) : ∀ (k i : Nat) (x : List (S49)), i ≤ l.length → l.length - i < k → x.length = l.length → laws_toRecS.l0 k l x (i : Int) = some (x.take i ++ (l.drop i).map cvRec) := by
  intro k
  induction k with
  | zero => intro i x hi hk; omega
  | succ k ih =>
    intro i x hi hk hx
    unfold laws_toRecS.l0
    by_cases h : i < l.length
    · rw [if_pos (by omega), if_pos (by omega)]
      simp only [laws_toRec.f, laws_toRange.f, Option.bind_some]
      rw [if_pos (by omega), step_nat (by omega), at_nat, ih (i + 1) _ (by omega) (by omega) (by simpa using hx), take_set _ _ _ (by omega), drop_getD l z160 i h]
      simp [rd_T160, cvRec]
    · rw [if_neg (by omega)]
      have : i = l.length := by omega
      subst this
      simp [← hx]
theorem toRecS_some (l : List (S160)) (hl : l.length ≤ 1048576) (k : Nat) (hk : 1048576 < k) : laws_toRecS.f k l = some (l.map cvRec) := by
  unfold laws_toRecS.f
  rw [if_pos (by omega), if_pos (by omega)]
  have := toRecS_loop l hl k 0 (List.replicate ((l.length : Int) : Int).toNat z49) (by omega) (by omega) (by simp)
  simpa using this
theorem eqRec_self (a : Int) (b c d e : ByteArray) : laws_eqRec.f a b c d e a b c d e = some true := by
  simp [laws_eqRec.f, laws_eqRange.f]
theorem eqRecS_loop (l : List (S49)) (hl : l.length ≤ 1048576) : ∀ (k i : Nat), i ≤ l.length → l.length - i < k → laws_eqRecS.l0 k l l (i : Int) = some true := by
  intro k
  induction k with
  | zero => intro i hi hk; omega
  | succ k ih =>
    intro i hi hk
    unfold laws_eqRecS.l0
    by_cases h : i < l.length
    · rw [if_pos (by omega), if_pos (by omega), if_pos (by omega), eqRec_self]
      simp only [Option.bind_some, if_true]
      rw [step_nat (by omega)]
      exact ih (i + 1) (by omega) (by omega)
    · rw [if_neg (by omega)]
theorem eqRecS_self (l : List (S49)) (hl : l.length ≤ 1048576) (k : Nat) (hk : 1048576 < k) : laws_eqRecS.f k l l = some true := by
  unfold laws_eqRecS.f
  rw [if_pos rfl]
  exact eqRecS_loop l hl k 0 (by omega) (by omega)

/-! a prepared transaction is right -/
def recGood (x : S49) : Bool := (spec_RecOk.f x.f0 x.f1 x.f2 x.f3.f0 x.f3.f1).getD false
theorem recGood_of (x : S49) : spec_RecOk.f x.f0 x.f1 x.f2 x.f3.f0 x.f3.f1 = some (recGood x) := by
  obtain ⟨r, hr, _⟩ := rec_some x.f0 x.f1 x.f2 x.f3.f0 x.f3.f1
  unfold recGood
  rw [hr]
  rfl
def txGood (a b c : Int) : Bool := decide (0 ≤ a ∧ a ≤ 7 ∧ 1 ≤ b ∧ b ≤ 999 ∧ 1 ≤ c ∧ c ≤ 999)
def prepGood (a b c : Int) (l : List (S49)) : Bool := txGood a b c && (decide (l.length ≤ 16) && l.all recGood)
theorem specPrep_loop (l : List (S49)) (hl : l.length ≤ 16) : ∀ (k i : Nat), i ≤ l.length → l.length - i < k → spec_PrepOk.l0 k l (l.length : Int) (i : Int) = some ((l.drop i).all recGood) := by
  intro k
  induction k with
  | zero => intro i hi hk; omega
  | succ k ih =>
    intro i hi hk
    unfold spec_PrepOk.l0
    by_cases h : i < l.length
    · rw [if_pos (by omega), if_pos (by omega), if_pos (by omega), recGood_of, step_nat (by omega), all_drop _ l z49 i h]
      simp only [Option.bind_some, rd_T49, at_nat]
      rw [ih (i + 1) (by omega) (by omega)]
      cases recGood (l.getD i z49) <;> simp
    · rw [if_neg (by omega)]
      have : i = l.length := by omega
      subst this
      simp
theorem specTx_is (a b c : Int) : spec_TxOk.f a b c = some (txGood a b c) := by
  unfold spec_TxOk.f txGood
  repeat' split
  all_goals (congr 1; first | (rw [eq_comm, decide_eq_false_iff_not]; omega) | (rw [decide_eq_decide]; omega))
theorem implTx_is (a b c : Int) : impl_TxOk.f a b c = some (txGood a b c) := by
  have e : impl_TxOk.f a b c = spec_TxOk.f a b c := by
    unfold impl_TxOk.f spec_TxOk.f impl_within.f
    by_cases h0 : a ≥ 0
    · by_cases h1 : a ≤ 7
      · by_cases h2 : b ≥ 1
        · by_cases h3 : b ≤ 999
          · by_cases h4 : c ≥ 1 <;> simp [h0, h1, h2, h3, h4]
          · simp [h0, h1, h2, h3]
        · simp [h0, h1, h2]
      · simp [h0, h1]
    · simp [h0]
  rw [e, specTx_is]
theorem specPrep_is (a b c : Int) (l : List (S49)) (k : Nat) (hk : 18 < k) : spec_PrepOk.f k a b c l = some (prepGood a b c l) := by
  obtain ⟨k, rfl⟩ : ∃ j, k = j + 1 := ⟨k - 1, by omega⟩
  unfold spec_PrepOk.f prepGood
  rw [specTx_is]
  simp only [Option.bind_some]
  rw [spec_PrepOk.j0, spec_PrepOk.j0]
  cases txGood a b c with
  | false => simp
  | true =>
    by_cases h : l.length ≤ 16
    · have := specPrep_loop l h k 0 (by omega) (by omega)
      simp only [List.drop_zero] at this
      rw [if_pos rfl, if_neg (by simp; omega)]
      simpa [h] using this
    · rw [if_pos rfl, if_pos (by simp; omega)]
      simp [h]
theorem anyBad : ∀ l : List (S49), anyP impl_PrepOk.bad l = some (!(l.all recGood))
  | [] => rfl
  | x :: xs => by
    have hb : impl_PrepOk.bad x = some (!(recGood x)) := by
      unfold impl_PrepOk.bad impl_PrepOk_1.f
      rw [rec_eq, recGood_of]
      rfl
    unfold anyP
    rw [hb, anyBad xs]
    cases h : recGood x <;> simp [h]
theorem implPrep_is (a b c : Int) (l : List (S49)) : impl_PrepOk.f a b c l = some (prepGood a b c l) := by
  unfold impl_PrepOk.f prepGood
  rw [implTx_is, anyBad]
  simp only [Option.bind_some]
  cases txGood a b c with
  | false => simp
  | true =>
    by_cases h : l.length ≤ 16
    · rw [if_pos rfl, if_pos (by omega)]
      simp [h]
    · rw [if_pos rfl, if_neg (by omega)]
      simp [h]

theorem FnExactPrepOk : ∀ (a0_0 a0_1 a0_2 : Int) (l0_3 : List (S160)), IntOk a0_0 → IntOk a0_1 → IntOk a0_2 → (l0_3.length ≤ 9223372036854775807 ∧ ∀ y ∈ l0_3, (IntOk y.f0 ∧ StrOk y.f1 ∧ StrOk y.f2 ∧ (StrOk y.f3.f0 ∧ StrOk y.f3.f1))) → ∃ k, laws_FnExactPrepOk.f k a0_0 a0_1 a0_2 l0_3 = some true := by
  intro a b c l _ _ _ hL
  have hl := hL.1
  refine ⟨1048577, ?_⟩
  generalize hK : 1048577 = K
  obtain ⟨t, ht, hs⟩ := szRecS_some l hl 1048576 (by omega) (by omega) K (Or.inr (by omega))
  unfold laws_FnExactPrepOk.f laws_szPrep.f
  rw [ht]
  simp only [Option.bind_some]
  by_cases h : t < 0
  · rw [if_pos h]
    rfl
  · have hn := hs h
    have e : laws_toPrep.f K a b c l = some (a, b, c, l.map cvRec) := by
      unfold laws_toPrep.f laws_toTx.f
      rw [toRecS_some l (by omega) K (by omega)]
      rfl
    rw [if_neg h, e]
    simp only [Option.bind_some]
    rw [if_neg h, specPrep_is _ _ _ _ K (by omega), implPrep_is]
    simp only [Option.bind_some, bne_self_eq_false, Bool.false_eq_true, if_false]
    unfold laws_eqPrep.f
    rw [eqRecS_self _ (by simp; omega) K (by omega)]
    simp [laws_eqTx.f]


end Go.Proofs.Ythoiahaedhnigaa.Pure
