/- Contracts: what the laws do with texts, numbers, nodes and trees: sizes, copies, equality. -/
import Derived.Test.YtedffkngbjlgdaaDoorKa
namespace Go.Vm
open Go.Proofs
set_option maxRecDepth 100000
set_option linter.unusedVariables false
set_option linter.unusedSimpArgs false

def strB0 (s : ByteArray) : Prop := s.size ≤ maxS
def strB1 (s : ByteArray) : Prop := s.size ≤ 1048576
def intB0 (n : Int) : Prop := True
theorem ev_szStringS : ∀ x, evFnX tab [] (cSzS 1 strE1 strB0 strB1) Tryd.f32 (body Tryd.f32) x := by
  rintro ⟨l, left, h1, h2, hb0, hb⟩
  replace hb0 : l.length ≤ 9223372036854775807 := hb0
  conv => whnf
  intro h3
  conv => whnf
  have e1 : IntKind.i64.wrap (left - (l.length : Int)) = left - l.length := w64 (by omega) (by omega)
  refine br2 (fun h4 => ?_) (fun h4 => ?_)
  · conv => whnf
    exact ⟨⟨rfl, -1, rfl, by omega, (show (-1 : Int) ≤ left by omega), fun h => by omega⟩⟩
  replace h4 : decide (IntKind.i64.wrap (left - (l.length : Int)) < 0) = false := h4
  rw [e1] at h4
  have h4' := of_decide_eq_false h4
  conv => whnf
  refine ⟨fun m s h => ∃ (i : Nat) (k : Int), i ≤ l.length ∧ 0 ≤ k ∧ k ≤ left - l.length ∧ (∀ j y, j < i → l[j]? = some y → strB1 y) ∧ m = l.length - i ∧ s = [(0, .sl 0 none), (1, .lf (.int .i64 k)), (5, .lf (.int .i64 i))] ∧ h = [(0, some (.row .lent 1 strE1 l))],
    l.length, [(0, 0)], [(0, .sl 0 none), (1, .lf (.int .i64 (left - l.length))), (5, .lf (.int .i64 0))], [(0, some (.row .lent 1 strE1 l))], ⟨rfl, ⟨rfl, ?_, rfl, trivial⟩, ⟨rfl, trivial⟩⟩, ⟨0, left - l.length, by omega, by omega, by omega, fun j y h => by omega, by omega, rfl, rfl⟩, ?_⟩
  · show V.lf (.int .i64 (IntKind.i64.wrap (left - (l.length : Int)))) = _
    rw [e1]
  rintro m _ _ ⟨i, k, g1, g2, g3, g4, rfl, rfl, rfl⟩
  conv => whnf
  intro _
  conv => whnf
  refine br2 (fun h5 => ?_) (fun h5 => ?_)
  · have hi : i < l.length := by have := of_decide_eq_true h5; omega
    obtain ⟨y, hy⟩ := getL hi
    have hys : y.size ≤ 9223372036854775807 := hb y (List.mem_of_getElem? hy)
    have e2 : IntKind.i64.wrap (k - (y.size : Int)) = k - y.size := w64 (by omega) (by omega)
    conv => whnf
    refine ⟨Int.natCast_nonneg _, ltI hy, ?_⟩
    conv => whnf
    refine ex2 _ (nthI hy) ?_
    conv => whnf
    refine br2 (fun h6 => ?_) (fun h6 => ?_)
    · conv => whnf
      exact ⟨⟨rfl, -1, rfl, by omega, (show (-1 : Int) ≤ left by omega), fun h => by omega⟩⟩
    · replace h6 : decide (IntKind.i64.wrap (k - (y.size : Int)) < 0) = false := h6
      rw [e2] at h6
      have h6' := of_decide_eq_false h6
      conv => whnf
      refine ⟨l.length - (i + 1), [(0, 0)], [(0, .sl 0 none), (1, .lf (.int .i64 (k - y.size))), (5, .lf (.int .i64 ((i + 1 : Nat) : Int)))], [(0, some (.row .lent 1 strE1 l))], by omega, ⟨rfl, ⟨rfl, ?_, incI hi hb0, trivial⟩, ⟨rfl, trivial⟩⟩, i + 1, k - y.size, by omega, by omega, by omega, fun j z hj hz => ?_, rfl, rfl, rfl⟩
      · show V.lf (.int .i64 (IntKind.i64.wrap (k - (y.size : Int)))) = _
        rw [e2]
      · rcases Nat.lt_or_ge j i with h7 | h7
        · exact g4 j z h7 hz
        · obtain rfl : j = i := by omega
          rw [hy] at hz; cases hz
          unfold strB1; omega
  · have hi : i = l.length := by have := of_decide_eq_false h5; omega
    conv => whnf
    refine ⟨⟨rfl, k, rfl, by omega, (show k ≤ left by omega), fun _ => (⟨by omega, fun y hy => ?_⟩ : (l.length : Int) + k ≤ left ∧ ∀ y ∈ l, strB1 y)⟩⟩
    obtain ⟨j, hj⟩ := List.getElem?_of_mem hy
    exact g4 j y (by rw [hi]; exact (List.getElem?_eq_some_iff.1 hj).1) hj
theorem szStringS_ok : FnOk Tryd.prog 32 (cSzS 1 strE1 strB0 strB1) := fnOk_of fun x => fnX_at tab_ok (SOk.nil) mixed (fn := Tryd.f32) (code := body Tryd.f32) ⟨Tryd.func32, rfl, by kernel_rfl, by kernel_rfl, by kernel_rfl, by kernel_rfl⟩ (ev_szStringS x)
theorem ev_szIntS : ∀ x, evFnX tab [] (cSzS 1 intE1 intB0 intB0) Tryd.f33 (body Tryd.f33) x := by
  rintro ⟨l, left, h1, h2, hb0, hb⟩
  replace hb0 : l.length ≤ 9223372036854775807 := hb0
  conv => whnf
  intro h3
  conv => whnf
  have e1 : IntKind.i64.wrap (left - (l.length : Int)) = left - l.length := w64 (by omega) (by omega)
  refine br2 (fun h4 => ?_) (fun h4 => ?_)
  · conv => whnf
    exact ⟨⟨rfl, -1, rfl, by omega, (show (-1 : Int) ≤ left by omega), fun h => by omega⟩⟩
  replace h4 : decide (IntKind.i64.wrap (left - (l.length : Int)) < 0) = false := h4
  rw [e1] at h4
  have h4' := of_decide_eq_false h4
  conv => whnf
  refine ⟨⟨rfl, _, rfl, ?_, ?_, fun _ => (⟨?_, fun y _ => trivial⟩ : (l.length : Int) + IntKind.i64.wrap (left - (l.length : Int)) ≤ left ∧ ∀ y ∈ l, intB0 y)⟩⟩
  · show -1 ≤ IntKind.i64.wrap (left - (l.length : Int)); rw [e1]; omega
  · show IntKind.i64.wrap (left - (l.length : Int)) ≤ left; rw [e1]; omega
  · rw [e1]; omega
theorem szIntS_ok : FnOk Tryd.prog 33 (cSzS 1 intE1 intB0 intB0) := fnOk_of fun x => fnX_at tab_ok (SOk.nil) mixed (fn := Tryd.f33) (code := body Tryd.f33) ⟨Tryd.func33, rfl, by kernel_rfl, by kernel_rfl, by kernel_rfl, by kernel_rfl⟩ (ev_szIntS x)
theorem ev_toStringS : ∀ x, evFnX tab [] (cCopyS 1 strE1) Tryd.f39 (body Tryd.f39) x := by
  rintro ⟨l, hl⟩
  conv => whnf
  intro h1
  conv => whnf
  refine ⟨Int.natCast_nonneg _, rfl, ?_, ?_⟩
  · show (l.length : Int) ≤ (4294967296 : Nat); omega
  conv => whnf
  refine ⟨ByteArray, strE1, (⟨#[]⟩ : ByteArray), fun _ => rfl, rfl, ?_⟩
  conv => whnf
  refine ⟨fun m s h => ∃ (i : Nat) (l' : List ByteArray), i ≤ l.length ∧ l'.length = l.length ∧ (∀ j, j < i → l'[j]? = l[j]?) ∧ m = l.length - i ∧ s = [(0, .sl 0 none), (3, .sl 112 none), (4, .lf (.int .i64 i))] ∧ h = [(112, some (.row .own 1 strE1 l')), (0, some (.row .lent 1 strE1 l))],
    l.length, [(112, 112), (0, 0)], [(0, .sl 0 none), (3, .sl 112 none), (4, .lf (.int .i64 0))], [(112, some (.row .own 1 strE1 (List.replicate (l.length : Int).toNat (⟨#[]⟩ : ByteArray)))), (0, some (.row .lent 1 strE1 l))], ⟨rfl, ⟨rfl, rfl, rfl, trivial⟩, ⟨rfl, rfl, trivial⟩⟩,
    ⟨0, _, by omega, by rw [List.length_replicate, Int.toNat_natCast], fun j h => by omega, by omega, rfl, rfl⟩, ?_⟩
  rintro m _ _ ⟨i, l', g1, g2, g3, rfl, rfl, rfl⟩
  conv => whnf
  intro _
  conv => whnf
  refine br2 (fun h5 => ?_) (fun h5 => ?_)
  · have hi : i < l.length := by have := of_decide_eq_true h5; omega
    obtain ⟨y, hy⟩ : ∃ y, l[i]? = some y := ⟨_, List.getElem?_eq_getElem hi⟩
    have hy2 : nth l ((i : Nat) : Int).toNat = some y := by rw [nth_eq, Int.toNat_natCast]; exact hy
    obtain ⟨z, hz⟩ : ∃ z, l'[i]? = some z := ⟨_, List.getElem?_eq_getElem (by omega)⟩
    have hz2 : nth l' ((i : Nat) : Int).toNat = some z := by rw [nth_eq, Int.toNat_natCast]; exact hz
    conv => whnf
    refine ⟨Int.natCast_nonneg _, (show (i : Int) < (l.length : Int) by omega), ?_⟩
    conv => whnf
    refine ex2 y hy2 ?_
    conv => whnf
    refine ⟨Int.natCast_nonneg _, (show (i : Int) < (l'.length : Int) by omega), ?_⟩
    conv => whnf
    refine ex2 z hz2 ?_
    conv => whnf
    refine ⟨y, rfl, ?_⟩
    conv => whnf
    refine ⟨l.length - (i + 1), [(112, 112), (0, 0)], [(0, .sl 0 none), (3, .sl 112 none), (4, .lf (.int .i64 ((i + 1 : Nat) : Int)))], [(112, some (.row .own 1 strE1 (l'.set (i : Int).toNat y))), (0, some (.row .lent 1 strE1 l))], by omega, ⟨rfl, ⟨rfl, rfl, ?_, trivial⟩, ⟨rfl, rfl, trivial⟩⟩, i + 1, _, by omega, ?_, fun j hj => ?_, rfl, rfl, rfl⟩
    · show V.lf (.int .i64 (IntKind.i64.wrap ((i : Int) + 1))) = _
      rw [w64 (by omega) (by omega)]; rfl
    · rw [List.length_set]; exact g2
    · rw [Int.toNat_natCast, set_at (by omega)]
      split
      · rename_i e; subst e; exact hy.symm
      · exact g3 j (by omega)
  · have hi : i = l.length := by have := of_decide_eq_false h5; omega
    conv => whnf
    refine ⟨⟨rfl, ?_⟩⟩
    have : l' = l := by
      apply List.ext_getElem?
      intro j
      rcases Nat.lt_or_ge j l.length with h | h
      · exact g3 j (by omega)
      · rw [List.getElem?_eq_none (by omega), List.getElem?_eq_none h]
    show [[D.row _ strE1 l']] = [[D.row 1 strE1 l]]
    rw [this]
theorem toStringS_ok : FnOk Tryd.prog 39 (cCopyS 1 strE1) := fnOk_of fun x => fnX_at tab_ok (SOk.nil) mixed (fn := Tryd.f39) (code := body Tryd.f39) ⟨Tryd.func39, rfl, by kernel_rfl, by kernel_rfl, by kernel_rfl, by kernel_rfl⟩ (ev_toStringS x)
theorem ev_toIntS : ∀ x, evFnX tab [] (cCopyS 1 intE1) Tryd.f40 (body Tryd.f40) x := by
  rintro ⟨l, hl⟩
  conv => whnf
  intro h1
  conv => whnf
  refine ⟨Int.natCast_nonneg _, rfl, ?_, ?_⟩
  · show (l.length : Int) ≤ (4294967296 : Nat); omega
  conv => whnf
  refine ⟨Int, intE1, (0 : Int), fun _ => rfl, rfl, ?_⟩
  conv => whnf
  refine ⟨fun m s h => ∃ (i : Nat) (l' : List Int), i ≤ l.length ∧ l'.length = l.length ∧ (∀ j, j < i → l'[j]? = l[j]?) ∧ m = l.length - i ∧ s = [(0, .sl 0 none), (3, .sl 112 none), (4, .lf (.int .i64 i))] ∧ h = [(112, some (.row .own 1 intE1 l')), (0, some (.row .lent 1 intE1 l))],
    l.length, [(112, 112), (0, 0)], [(0, .sl 0 none), (3, .sl 112 none), (4, .lf (.int .i64 0))], [(112, some (.row .own 1 intE1 (List.replicate (l.length : Int).toNat (0 : Int)))), (0, some (.row .lent 1 intE1 l))], ⟨rfl, ⟨rfl, rfl, rfl, trivial⟩, ⟨rfl, rfl, trivial⟩⟩,
    ⟨0, _, by omega, by rw [List.length_replicate, Int.toNat_natCast], fun j h => by omega, by omega, rfl, rfl⟩, ?_⟩
  rintro m _ _ ⟨i, l', g1, g2, g3, rfl, rfl, rfl⟩
  conv => whnf
  intro _
  conv => whnf
  refine br2 (fun h5 => ?_) (fun h5 => ?_)
  · have hi : i < l.length := by have := of_decide_eq_true h5; omega
    obtain ⟨y, hy⟩ : ∃ y, l[i]? = some y := ⟨_, List.getElem?_eq_getElem hi⟩
    have hy2 : nth l ((i : Nat) : Int).toNat = some y := by rw [nth_eq, Int.toNat_natCast]; exact hy
    obtain ⟨z, hz⟩ : ∃ z, l'[i]? = some z := ⟨_, List.getElem?_eq_getElem (by omega)⟩
    have hz2 : nth l' ((i : Nat) : Int).toNat = some z := by rw [nth_eq, Int.toNat_natCast]; exact hz
    conv => whnf
    refine ⟨Int.natCast_nonneg _, (show (i : Int) < (l.length : Int) by omega), ?_⟩
    conv => whnf
    refine ex2 y hy2 ?_
    conv => whnf
    refine ⟨Int.natCast_nonneg _, (show (i : Int) < (l'.length : Int) by omega), ?_⟩
    conv => whnf
    refine ex2 z hz2 ?_
    conv => whnf
    refine ⟨y, rfl, ?_⟩
    conv => whnf
    refine ⟨l.length - (i + 1), [(112, 112), (0, 0)], [(0, .sl 0 none), (3, .sl 112 none), (4, .lf (.int .i64 ((i + 1 : Nat) : Int)))], [(112, some (.row .own 1 intE1 (l'.set (i : Int).toNat y))), (0, some (.row .lent 1 intE1 l))], by omega, ⟨rfl, ⟨rfl, rfl, ?_, trivial⟩, ⟨rfl, rfl, trivial⟩⟩, i + 1, _, by omega, ?_, fun j hj => ?_, rfl, rfl, rfl⟩
    · show V.lf (.int .i64 (IntKind.i64.wrap ((i : Int) + 1))) = _
      rw [w64 (by omega) (by omega)]; rfl
    · rw [List.length_set]; exact g2
    · rw [Int.toNat_natCast, set_at (by omega)]
      split
      · rename_i e; subst e; exact hy.symm
      · exact g3 j (by omega)
  · have hi : i = l.length := by have := of_decide_eq_false h5; omega
    conv => whnf
    refine ⟨⟨rfl, ?_⟩⟩
    have : l' = l := by
      apply List.ext_getElem?
      intro j
      rcases Nat.lt_or_ge j l.length with h | h
      · exact g3 j (by omega)
      · rw [List.getElem?_eq_none (by omega), List.getElem?_eq_none h]
    show [[D.row _ intE1 l']] = [[D.row 1 intE1 l]]
    rw [this]
theorem toIntS_ok : FnOk Tryd.prog 40 (cCopyS 1 intE1) := fnOk_of fun x => fnX_at tab_ok (SOk.nil) mixed (fn := Tryd.f40) (code := body Tryd.f40) ⟨Tryd.func40, rfl, by kernel_rfl, by kernel_rfl, by kernel_rfl, by kernel_rfl⟩ (ev_toIntS x)
theorem ev_eqStringS : ∀ x, evFnX tab [] (cEqS 1 strE1) Tryd.f49 (body Tryd.f49) x := by
  rintro ⟨l, m⟩
  conv => whnf
  intro h1
  conv => whnf
  intro h2
  conv => whnf
  refine br2 (fun h3 => ?_) (fun h3 => ?_)
  · conv => whnf
    refine ⟨⟨rfl, ?_⟩⟩
    show _ = [[D.lf (.bool (eqX l m))]]
    have : l ≠ m := by rintro rfl; simp at h3
    rw [eqX_no.2 this]
  have hl : l.length = m.length := by
    replace h3 : ((l.length : Int) != (m.length : Int)) = false := h3
    simp at h3; omega
  conv => whnf
  refine ⟨fun k s h => ∃ i : Nat, i ≤ l.length ∧ (∀ j, j < i → l[j]? = m[j]?) ∧ k = l.length - i ∧ s = [(0, .sl 0 none), (1, .sl 16 none), (5, .lf (.int .i64 i))] ∧ h = [(0, some (.row .lent 1 strE1 l)), (16, some (.row .lent 1 strE1 m))],
    l.length, [(0, 0), (16, 16)], [(0, .sl 0 none), (1, .sl 16 none), (5, .lf (.int .i64 0))], [(0, some (.row .lent 1 strE1 l)), (16, some (.row .lent 1 strE1 m))], ⟨rfl, ⟨rfl, rfl, rfl, trivial⟩, ⟨rfl, rfl, trivial⟩⟩, ⟨0, by omega, fun j h => by omega, by omega, rfl, rfl⟩, ?_⟩
  rintro k _ _ ⟨i, g1, g2, rfl, rfl, rfl⟩
  conv => whnf
  intro h4
  conv => whnf
  refine br2 (fun h5 => ?_) (fun h5 => ?_)
  · have hi : i < l.length := by have := of_decide_eq_true h5; omega
    obtain ⟨y, hy⟩ : ∃ y, l[i]? = some y := ⟨_, List.getElem?_eq_getElem hi⟩
    have hy2 : nth l ((i : Nat) : Int).toNat = some y := by rw [nth_eq, Int.toNat_natCast]; exact hy
    obtain ⟨z, hz⟩ : ∃ z, m[i]? = some z := ⟨_, List.getElem?_eq_getElem (by omega)⟩
    have hz2 : nth m ((i : Nat) : Int).toNat = some z := by rw [nth_eq, Int.toNat_natCast]; exact hz
    conv => whnf
    refine ⟨Int.natCast_nonneg _, (show (i : Int) < (l.length : Int) by omega), ?_⟩
    conv => whnf
    refine ex2 y hy2 ?_
    conv => whnf
    refine ⟨Int.natCast_nonneg _, (show (i : Int) < (m.length : Int) by omega), ?_⟩
    conv => whnf
    refine ex2 z hz2 ?_
    conv => whnf
    refine br2 (fun h6 => ?_) (fun h6 => ?_)
    · replace h6 : (!strEq y z) = true := h6
      rw [Bool.not_eq_true', strEq_no] at h6
      conv => whnf
      refine ⟨⟨rfl, ?_⟩⟩
      show _ = [[D.lf (.bool (eqX l m))]]
      have : l ≠ m := by rintro rfl; rw [hy] at hz; cases hz; exact h6 rfl
      rw [eqX_no.2 this]
    · replace h6 : (!strEq y z) = false := h6
      rw [Bool.not_eq_false', strEq_iff] at h6
      conv => whnf
      refine ⟨l.length - (i + 1), [(0, 0), (16, 16)], [(0, .sl 0 none), (1, .sl 16 none), (5, .lf (.int .i64 ((i + 1 : Nat) : Int)))], [(0, some (.row .lent 1 strE1 l)), (16, some (.row .lent 1 strE1 m))], by omega, ⟨rfl, ⟨rfl, rfl, ?_, trivial⟩, ⟨rfl, rfl, trivial⟩⟩, i + 1, by omega, fun j hj => ?_, rfl, rfl, rfl⟩
      · show V.lf (.int .i64 (IntKind.i64.wrap ((i : Int) + 1))) = _
        replace h4 : l.length ≤ 9223372036854775807 := h4
        rw [w64 (by omega) (by omega)]; rfl
      · rcases Nat.lt_or_ge j i with h7 | h7
        · exact g2 j h7
        · obtain rfl : j = i := by omega
          rw [hy, hz, h6]
  · have hi : i = l.length := by have := of_decide_eq_false h5; omega
    conv => whnf
    refine ⟨⟨rfl, ?_⟩⟩
    show _ = [[D.lf (.bool (eqX l m))]]
    have : l = m := by
      apply List.ext_getElem?
      intro j
      rcases Nat.lt_or_ge j l.length with h | h
      · exact g2 j (by omega)
      · rw [List.getElem?_eq_none h, List.getElem?_eq_none (by omega)]
    rw [eqX_iff.2 this]
theorem eqStringS_ok : FnOk Tryd.prog 49 (cEqS 1 strE1) := fnOk_of fun x => fnX_at tab_ok (SOk.nil) mixed (fn := Tryd.f49) (code := body Tryd.f49) ⟨Tryd.func49, rfl, by kernel_rfl, by kernel_rfl, by kernel_rfl, by kernel_rfl⟩ (ev_eqStringS x)
theorem ev_eqIntS : ∀ x, evFnX tab [] (cEqS 1 intE1) Tryd.f50 (body Tryd.f50) x := by
  rintro ⟨l, m⟩
  conv => whnf
  intro h1
  conv => whnf
  intro h2
  conv => whnf
  refine br2 (fun h3 => ?_) (fun h3 => ?_)
  · conv => whnf
    refine ⟨⟨rfl, ?_⟩⟩
    show _ = [[D.lf (.bool (eqX l m))]]
    have : l ≠ m := by rintro rfl; simp at h3
    rw [eqX_no.2 this]
  have hl : l.length = m.length := by
    replace h3 : ((l.length : Int) != (m.length : Int)) = false := h3
    simp at h3; omega
  conv => whnf
  refine ⟨fun k s h => ∃ i : Nat, i ≤ l.length ∧ (∀ j, j < i → l[j]? = m[j]?) ∧ k = l.length - i ∧ s = [(0, .sl 0 none), (1, .sl 16 none), (5, .lf (.int .i64 i))] ∧ h = [(0, some (.row .lent 1 intE1 l)), (16, some (.row .lent 1 intE1 m))],
    l.length, [(0, 0), (16, 16)], [(0, .sl 0 none), (1, .sl 16 none), (5, .lf (.int .i64 0))], [(0, some (.row .lent 1 intE1 l)), (16, some (.row .lent 1 intE1 m))], ⟨rfl, ⟨rfl, rfl, rfl, trivial⟩, ⟨rfl, rfl, trivial⟩⟩, ⟨0, by omega, fun j h => by omega, by omega, rfl, rfl⟩, ?_⟩
  rintro k _ _ ⟨i, g1, g2, rfl, rfl, rfl⟩
  conv => whnf
  intro h4
  conv => whnf
  refine br2 (fun h5 => ?_) (fun h5 => ?_)
  · have hi : i < l.length := by have := of_decide_eq_true h5; omega
    obtain ⟨y, hy⟩ : ∃ y, l[i]? = some y := ⟨_, List.getElem?_eq_getElem hi⟩
    have hy2 : nth l ((i : Nat) : Int).toNat = some y := by rw [nth_eq, Int.toNat_natCast]; exact hy
    obtain ⟨z, hz⟩ : ∃ z, m[i]? = some z := ⟨_, List.getElem?_eq_getElem (by omega)⟩
    have hz2 : nth m ((i : Nat) : Int).toNat = some z := by rw [nth_eq, Int.toNat_natCast]; exact hz
    conv => whnf
    refine ⟨Int.natCast_nonneg _, (show (i : Int) < (l.length : Int) by omega), ?_⟩
    conv => whnf
    refine ex2 y hy2 ?_
    conv => whnf
    refine ⟨Int.natCast_nonneg _, (show (i : Int) < (m.length : Int) by omega), ?_⟩
    conv => whnf
    refine ex2 z hz2 ?_
    conv => whnf
    refine br2 (fun h6 => ?_) (fun h6 => ?_)
    · replace h6 : (y != z) = true := h6
      replace h6 : y ≠ z := by simpa using h6
      conv => whnf
      refine ⟨⟨rfl, ?_⟩⟩
      show _ = [[D.lf (.bool (eqX l m))]]
      have : l ≠ m := by rintro rfl; rw [hy] at hz; cases hz; exact h6 rfl
      rw [eqX_no.2 this]
    · replace h6 : (y != z) = false := h6
      replace h6 : y = z := by simpa using h6
      conv => whnf
      refine ⟨l.length - (i + 1), [(0, 0), (16, 16)], [(0, .sl 0 none), (1, .sl 16 none), (5, .lf (.int .i64 ((i + 1 : Nat) : Int)))], [(0, some (.row .lent 1 intE1 l)), (16, some (.row .lent 1 intE1 m))], by omega, ⟨rfl, ⟨rfl, rfl, ?_, trivial⟩, ⟨rfl, rfl, trivial⟩⟩, i + 1, by omega, fun j hj => ?_, rfl, rfl, rfl⟩
      · show V.lf (.int .i64 (IntKind.i64.wrap ((i : Int) + 1))) = _
        replace h4 : l.length ≤ 9223372036854775807 := h4
        rw [w64 (by omega) (by omega)]; rfl
      · rcases Nat.lt_or_ge j i with h7 | h7
        · exact g2 j h7
        · obtain rfl : j = i := by omega
          rw [hy, hz, h6]
  · have hi : i = l.length := by have := of_decide_eq_false h5; omega
    conv => whnf
    refine ⟨⟨rfl, ?_⟩⟩
    show _ = [[D.lf (.bool (eqX l m))]]
    have : l = m := by
      apply List.ext_getElem?
      intro j
      rcases Nat.lt_or_ge j l.length with h | h
      · exact g2 j (by omega)
      · rw [List.getElem?_eq_none h, List.getElem?_eq_none (by omega)]
    rw [eqX_iff.2 this]
theorem eqIntS_ok : FnOk Tryd.prog 50 (cEqS 1 intE1) := fnOk_of fun x => fnX_at tab_ok (SOk.nil) mixed (fn := Tryd.f50) (code := body Tryd.f50) ⟨Tryd.func50, rfl, by kernel_rfl, by kernel_rfl, by kernel_rfl, by kernel_rfl⟩ (ev_eqIntS x)
def nodeB0 (n : NodeX) : Prop := (n.ps.length ≤ maxS ∧ ∀ y ∈ n.ps, rngB0 y) ∧ (n.keys.length ≤ maxS ∧ ∀ y ∈ n.keys, strB0 y) ∧ n.kids.length ≤ maxS
def nodeB (n : NodeX) : Prop := n.ps.length ≤ 1048576 ∧ n.keys.length ≤ 1048576 ∧ n.kids.length ≤ 1048576
theorem ev_szNode : ∀ x, evFnX tab [(31, (cSzS 2 RngX.ds rngB0 rngB)), (32, (cSzS 1 strE1 strB0 strB1)), (33, (cSzS 1 intE1 intB0 intB0))] (cSz NodeX.ds nodeB0 nodeB) Tryd.f18 (body Tryd.f18) x := by
  rintro ⟨x, left, h1, h2, hb1, hb2, hb3⟩
  conv => whnf
  refine ⟨⟨x.ps, left, h1, h2, hb1⟩, rfl, ?_⟩
  rintro _ _ ⟨rfl, k, rfl, k1, k2, k3⟩
  replace k2 : k ≤ left := k2
  conv => whnf
  refine br2 (fun h3 => ?_) (fun h3 => ?_)
  · conv => whnf
    exact ⟨⟨rfl, -1, rfl, by omega, (show (-1 : Int) ≤ left by omega), fun h => by omega⟩⟩
  have h3' := of_decide_eq_false h3
  have k4 : (x.ps.length : Int) + k ≤ left := (k3 (by omega)).1
  conv => whnf
  refine ⟨⟨x.keys, k, by omega, by omega, hb2⟩, rfl, ?_⟩
  rintro _ _ ⟨rfl, j, rfl, j1, j2, j3⟩
  replace j2 : j ≤ k := j2
  conv => whnf
  refine br2 (fun h4 => ?_) (fun h4 => ?_)
  · conv => whnf
    exact ⟨⟨rfl, -1, rfl, by omega, (show (-1 : Int) ≤ left by omega), fun h => by omega⟩⟩
  have h4' := of_decide_eq_false h4
  have j4 : (x.keys.length : Int) + j ≤ k := (j3 (by omega)).1
  conv => whnf
  refine ⟨⟨x.kids, j, by omega, by omega, hb3, fun _ _ => trivial⟩, rfl, ?_⟩
  rintro _ _ ⟨rfl, q, rfl, q1, q2, q3⟩
  replace q2 : q ≤ j := q2
  conv => whnf
  refine br2 (fun h5 => ?_) (fun h5 => ?_)
  · conv => whnf
    exact ⟨⟨rfl, -1, rfl, by omega, (show (-1 : Int) ≤ left by omega), fun h => by omega⟩⟩
  have h5' := of_decide_eq_false h5
  have q4 : (x.kids.length : Int) + q ≤ j := (q3 (by omega)).1
  conv => whnf
  exact ⟨⟨rfl, q, rfl, by omega, (show q ≤ left by omega), fun _ => (⟨by omega, by omega, by omega⟩ : nodeB x)⟩⟩
theorem szNode_ok : FnOk Tryd.prog 18 (cSz NodeX.ds nodeB0 nodeB) := fnOk_of fun x => fnX_at tab_ok (SOk.cons szPairS_ok (SOk.cons szStringS_ok (SOk.cons szIntS_ok SOk.nil))) mixed (fn := Tryd.f18) (code := body Tryd.f18) ⟨Tryd.func18, rfl, by kernel_rfl, by kernel_rfl, by kernel_rfl, by kernel_rfl⟩ (ev_szNode x)
theorem ev_szNodeS : ∀ x, evFnX tab [(18, (cSz NodeX.ds nodeB0 nodeB))] (cSzS 3 NodeX.ds nodeB0 nodeB) Tryd.f10 (body Tryd.f10) x := by
  rintro ⟨l, left, h1, h2, hb0, hb⟩
  replace hb0 : l.length ≤ 9223372036854775807 := hb0
  conv => whnf
  intro h3
  conv => whnf
  have e1 : IntKind.i64.wrap (left - (l.length : Int)) = left - l.length := w64 (by omega) (by omega)
  refine br2 (fun h4 => ?_) (fun h4 => ?_)
  · conv => whnf
    exact ⟨⟨rfl, -1, rfl, by omega, (show (-1 : Int) ≤ left by omega), fun h => by omega⟩⟩
  replace h4 : decide (IntKind.i64.wrap (left - (l.length : Int)) < 0) = false := h4
  rw [e1] at h4
  have h4' := of_decide_eq_false h4
  conv => whnf
  refine ⟨fun m s h => ∃ (i : Nat) (k : Int), i ≤ l.length ∧ 0 ≤ k ∧ k ≤ left - l.length ∧ (∀ j y, j < i → l[j]? = some y → nodeB y) ∧ m = l.length - i ∧ s = [(0, .sl 0 none), (1, .lf (.int .i64 k)), (5, .lf (.int .i64 i))] ∧ h = [(0, some (.row .lent 3 NodeX.ds l))],
    l.length, [(0, 0)], [(0, .sl 0 none), (1, .lf (.int .i64 (left - l.length))), (5, .lf (.int .i64 0))], [(0, some (.row .lent 3 NodeX.ds l))], ⟨rfl, ⟨rfl, ?_, rfl, trivial⟩, ⟨rfl, trivial⟩⟩, ⟨0, left - l.length, by omega, by omega, by omega, fun j y h => by omega, by omega, rfl, rfl⟩, ?_⟩
  · show V.lf (.int .i64 (IntKind.i64.wrap (left - (l.length : Int)))) = _
    rw [e1]
  rintro m _ _ ⟨i, k, g1, g2, g3, g4, rfl, rfl, rfl⟩
  conv => whnf
  intro _
  conv => whnf
  refine br2 (fun h5 => ?_) (fun h5 => ?_)
  · have hi : i < l.length := by have := of_decide_eq_true h5; omega
    obtain ⟨y, hy⟩ : ∃ y, l[i]? = some y := ⟨_, List.getElem?_eq_getElem hi⟩
    have hy2 : nth l ((i : Nat) : Int).toNat = some y := by rw [nth_eq, Int.toNat_natCast]; exact hy
    conv => whnf
    refine ⟨Int.natCast_nonneg _, (show (i : Int) < (l.length : Int) by omega), ?_⟩
    conv => whnf
    refine ex2 y hy2 ?_
    conv => whnf
    refine ⟨⟨y, k, g2, by omega, hb y (List.mem_of_getElem? hy)⟩, rfl, ?_⟩
    rintro _ _ ⟨rfl, k', rfl, k1, k2, k3⟩
    replace k2 : k' ≤ k := k2
    conv => whnf
    refine br2 (fun h6 => ?_) (fun h6 => ?_)
    · conv => whnf
      exact ⟨⟨rfl, -1, rfl, by omega, (show (-1 : Int) ≤ left by omega), fun h => by omega⟩⟩
    · have h6' := of_decide_eq_false h6
      conv => whnf
      refine ⟨l.length - (i + 1), [(0, 0)], [(0, .sl 0 none), (1, .lf (.int .i64 k')), (5, .lf (.int .i64 ((i + 1 : Nat) : Int)))], [(0, some (.row .lent 3 NodeX.ds l))], by omega, ⟨rfl, ⟨rfl, rfl, ?_, trivial⟩, ⟨rfl, trivial⟩⟩, i + 1, k', by omega, by omega, by omega, fun j z hj hz => ?_, rfl, rfl, rfl⟩
      · show V.lf (.int .i64 (IntKind.i64.wrap ((i : Int) + 1))) = _
        rw [w64 (by omega) (by omega)]; rfl
      · rcases Nat.lt_or_ge j i with h7 | h7
        · exact g4 j z h7 hz
        · obtain rfl : j = i := by omega
          rw [hy] at hz; cases hz; exact k3 (by omega)
  · have hi : i = l.length := by have := of_decide_eq_false h5; omega
    conv => whnf
    refine ⟨⟨rfl, k, rfl, by omega, (show k ≤ left by omega), fun _ => (⟨by omega, fun y hy => ?_⟩ : (l.length : Int) + k ≤ left ∧ ∀ y ∈ l, nodeB y)⟩⟩
    obtain ⟨j, hj⟩ := List.getElem?_of_mem hy
    exact g4 j y (by rw [hi]; exact (List.getElem?_eq_some_iff.1 hj).1) hj
theorem szNodeS_ok : FnOk Tryd.prog 10 (cSzS 3 NodeX.ds nodeB0 nodeB) := fnOk_of fun x => fnX_at tab_ok (SOk.cons szNode_ok SOk.nil) mixed (fn := Tryd.f10) (code := body Tryd.f10) ⟨Tryd.func10, rfl, by kernel_rfl, by kernel_rfl, by kernel_rfl, by kernel_rfl⟩ (ev_szNodeS x)
def nodesB0 (l : List NodeX) : Prop := l.length ≤ maxS ∧ ∀ y ∈ l, nodeB0 y
def nodesB (l : List NodeX) : Prop := l.length ≤ 1048576 ∧ ∀ y ∈ l, nodeB y
def treeDs (l : List NodeX) : List D := [.row 3 NodeX.ds l]
theorem ev_szTree : ∀ x, evFnX tab [(10, (cSzS 3 NodeX.ds nodeB0 nodeB))] (cSz treeDs nodesB0 nodesB) Tryd.f4 (body Tryd.f4) x := by
  rintro ⟨x, left, h1, h2, hb⟩
  conv => whnf
  refine ⟨⟨x, left, h1, h2, hb⟩, rfl, ?_⟩
  rintro _ _ ⟨rfl, k, rfl, k1, k2, k3⟩
  replace k2 : k ≤ left := k2
  conv => whnf
  refine br2 (fun h3 => ?_) (fun h3 => ?_)
  · conv => whnf
    exact ⟨⟨rfl, -1, rfl, by omega, (show (-1 : Int) ≤ left by omega), fun h => by omega⟩⟩
  have h3' := of_decide_eq_false h3
  obtain ⟨k4, k5⟩ := k3 (by omega)
  replace k4 : (x.length : Int) + k ≤ left := k4
  conv => whnf
  exact ⟨⟨rfl, k, rfl, k1, k2, fun _ => (⟨by omega, k5⟩ : nodesB x)⟩⟩
theorem szTree_ok : FnOk Tryd.prog 4 (cSz treeDs nodesB0 nodesB) := fnOk_of fun x => fnX_at tab_ok (SOk.cons szNodeS_ok SOk.nil) mixed (fn := Tryd.f4) (code := body Tryd.f4) ⟨Tryd.func4, rfl, by kernel_rfl, by kernel_rfl, by kernel_rfl, by kernel_rfl⟩ (ev_szTree x)
structure NodeY where
  x : NodeX
  h : nodeB x
theorem ev_toNode : ∀ x, evFnX tab [(38, (cCopyS 2 RngX.ds)), (39, (cCopyS 1 strE1)), (40, (cCopyS 1 intE1))] (pureC NodeY [(.rd, true)] [true] (fun x => [x.x.ds]) (fun x => [x.x.ds])) Tryd.f25 (body Tryd.f25) x := by
  rintro ⟨x, h1, h2, h3⟩
  conv => whnf
  refine ⟨⟨x.ps, h1⟩, rfl, ?_⟩
  rintro _ _ ⟨rfl, rfl⟩
  conv => whnf
  refine ⟨⟨x.keys, h2⟩, rfl, ?_⟩
  rintro _ _ ⟨rfl, rfl⟩
  conv => whnf
  refine ⟨⟨x.kids, h3⟩, rfl, ?_⟩
  rintro _ _ ⟨rfl, rfl⟩
  conv => whnf
  exact ⟨⟨rfl, rfl⟩⟩
theorem toNode_ok : FnOk Tryd.prog 25 (pureC NodeY [(.rd, true)] [true] (fun x => [x.x.ds]) (fun x => [x.x.ds])) := fnOk_of fun x => fnX_at tab_ok (SOk.cons toPairS_ok (SOk.cons toStringS_ok (SOk.cons toIntS_ok SOk.nil))) mixed (fn := Tryd.f25) (code := body Tryd.f25) ⟨Tryd.func25, rfl, by kernel_rfl, by kernel_rfl, by kernel_rfl, by kernel_rfl⟩ (ev_toNode x)
theorem ev_eqNode : ∀ x, evFnX tab [(48, (cEqS 2 RngX.ds)), (49, (cEqS 1 strE1)), (50, (cEqS 1 intE1))] (cEq NodeX.ds) Tryd.f30 (body Tryd.f30) x := by
  rintro ⟨⟨a, b, c⟩, ⟨d, e, f⟩⟩
  repeat' ((conv => whnf); first | refine br2 (fun h => ?_) (fun h => ?_) | (refine ⟨(a, d), rfl, ?_⟩; rintro _ _ ⟨rfl, rfl⟩) | (refine ⟨(b, e), rfl, ?_⟩; rintro _ _ ⟨rfl, rfl⟩) | (refine ⟨(c, f), rfl, ?_⟩; rintro _ _ ⟨rfl, rfl⟩))
  all_goals (conv => whnf)
  all_goals refine ⟨⟨rfl, ?_⟩⟩
  all_goals show _ = [[D.lf (.bool (eqX (⟨a, b, c⟩ : NodeX) ⟨d, e, f⟩))]]
  all_goals congr 4
  all_goals rw [eq_comm]
  all_goals simp_all [eqX_iff, eqX_no]
theorem eqNode_ok : FnOk Tryd.prog 30 (cEq NodeX.ds) := fnOk_of fun x => fnX_at tab_ok (SOk.cons eqPairS_ok (SOk.cons eqStringS_ok (SOk.cons eqIntS_ok SOk.nil))) mixed (fn := Tryd.f30) (code := body Tryd.f30) ⟨Tryd.func30, rfl, by kernel_rfl, by kernel_rfl, by kernel_rfl, by kernel_rfl⟩ (ev_eqNode x)
theorem ev_eqNodeS : ∀ x, evFnX tab [(30, (cEq NodeX.ds))] (cEqS 3 NodeX.ds) Tryd.f17 (body Tryd.f17) x := by
  rintro ⟨l, m⟩
  conv => whnf
  intro h1
  conv => whnf
  intro h2
  conv => whnf
  refine br2 (fun h3 => ?_) (fun h3 => ?_)
  · conv => whnf
    refine ⟨⟨rfl, ?_⟩⟩
    show _ = [[D.lf (.bool (eqX l m))]]
    have : l ≠ m := by rintro rfl; simp at h3
    rw [eqX_no.2 this]
  have hl : l.length = m.length := by
    replace h3 : ((l.length : Int) != (m.length : Int)) = false := h3
    simp at h3; omega
  conv => whnf
  refine ⟨fun k s h => ∃ i : Nat, i ≤ l.length ∧ (∀ j, j < i → l[j]? = m[j]?) ∧ k = l.length - i ∧ s = [(0, .sl 0 none), (1, .sl 16 none), (5, .lf (.int .i64 i))] ∧ h = [(0, some (.row .lent 3 NodeX.ds l)), (16, some (.row .lent 3 NodeX.ds m))],
    l.length, [(0, 0), (16, 16)], [(0, .sl 0 none), (1, .sl 16 none), (5, .lf (.int .i64 0))], [(0, some (.row .lent 3 NodeX.ds l)), (16, some (.row .lent 3 NodeX.ds m))], ⟨rfl, ⟨rfl, rfl, rfl, trivial⟩, ⟨rfl, rfl, trivial⟩⟩, ⟨0, by omega, fun j h => by omega, by omega, rfl, rfl⟩, ?_⟩
  rintro k _ _ ⟨i, g1, g2, rfl, rfl, rfl⟩
  conv => whnf
  intro h4
  conv => whnf
  refine br2 (fun h5 => ?_) (fun h5 => ?_)
  · have hi : i < l.length := by have := of_decide_eq_true h5; omega
    obtain ⟨y, hy⟩ : ∃ y, l[i]? = some y := ⟨_, List.getElem?_eq_getElem hi⟩
    have hy2 : nth l ((i : Nat) : Int).toNat = some y := by rw [nth_eq, Int.toNat_natCast]; exact hy
    obtain ⟨z, hz⟩ : ∃ z, m[i]? = some z := ⟨_, List.getElem?_eq_getElem (by omega)⟩
    have hz2 : nth m ((i : Nat) : Int).toNat = some z := by rw [nth_eq, Int.toNat_natCast]; exact hz
    conv => whnf
    refine ⟨Int.natCast_nonneg _, (show (i : Int) < (l.length : Int) by omega), ?_⟩
    conv => whnf
    refine ex2 y hy2 ?_
    conv => whnf
    refine ⟨Int.natCast_nonneg _, (show (i : Int) < (m.length : Int) by omega), ?_⟩
    conv => whnf
    refine ex2 z hz2 ?_
    conv => whnf
    refine ⟨(y, z), rfl, ?_⟩
    rintro _ _ ⟨rfl, rfl⟩
    conv => whnf
    refine br2 (fun h6 => ?_) (fun h6 => ?_)
    · replace h6 : (!eqX y z) = true := h6
      rw [Bool.not_eq_true', eqX_no] at h6
      conv => whnf
      refine ⟨⟨rfl, ?_⟩⟩
      show _ = [[D.lf (.bool (eqX l m))]]
      have : l ≠ m := by rintro rfl; rw [hy] at hz; cases hz; exact h6 rfl
      rw [eqX_no.2 this]
    · replace h6 : (!eqX y z) = false := h6
      rw [Bool.not_eq_false', eqX_iff] at h6
      conv => whnf
      refine ⟨l.length - (i + 1), [(0, 0), (16, 16)], [(0, .sl 0 none), (1, .sl 16 none), (5, .lf (.int .i64 ((i + 1 : Nat) : Int)))], [(0, some (.row .lent 3 NodeX.ds l)), (16, some (.row .lent 3 NodeX.ds m))], by omega, ⟨rfl, ⟨rfl, rfl, ?_, trivial⟩, ⟨rfl, rfl, trivial⟩⟩, i + 1, by omega, fun j hj => ?_, rfl, rfl, rfl⟩
      · show V.lf (.int .i64 (IntKind.i64.wrap ((i : Int) + 1))) = _
        replace h4 : l.length ≤ 9223372036854775807 := h4
        rw [w64 (by omega) (by omega)]; rfl
      · rcases Nat.lt_or_ge j i with h7 | h7
        · exact g2 j h7
        · obtain rfl : j = i := by omega
          rw [hy, hz, h6]
  · have hi : i = l.length := by have := of_decide_eq_false h5; omega
    conv => whnf
    refine ⟨⟨rfl, ?_⟩⟩
    show _ = [[D.lf (.bool (eqX l m))]]
    have : l = m := by
      apply List.ext_getElem?
      intro j
      rcases Nat.lt_or_ge j l.length with h | h
      · exact g2 j (by omega)
      · rw [List.getElem?_eq_none h, List.getElem?_eq_none (by omega)]
    rw [eqX_iff.2 this]
theorem eqNodeS_ok : FnOk Tryd.prog 17 (cEqS 3 NodeX.ds) := fnOk_of fun x => fnX_at tab_ok (SOk.cons eqNode_ok SOk.nil) mixed (fn := Tryd.f17) (code := body Tryd.f17) ⟨Tryd.func17, rfl, by kernel_rfl, by kernel_rfl, by kernel_rfl, by kernel_rfl⟩ (ev_eqNodeS x)
theorem ev_eqTree : ∀ x, evFnX tab [(17, (cEqS 3 NodeX.ds))] (cEq treeDs) Tryd.f9 (body Tryd.f9) x := by
  rintro ⟨a, b⟩
  conv => whnf
  refine ⟨(a, b), rfl, ?_⟩
  rintro _ _ ⟨rfl, rfl⟩
  conv => whnf
  refine br2 (fun h => ?_) (fun h => ?_)
  · replace h : (!eqX a b) = true := h
    rw [Bool.not_eq_true'] at h
    conv => whnf
    refine ⟨⟨rfl, ?_⟩⟩
    show [[D.lf (.bool false)]] = [[D.lf (.bool (eqX a b))]]
    rw [h]
  · replace h : (!eqX a b) = false := h
    rw [Bool.not_eq_false'] at h
    conv => whnf
    refine ⟨⟨rfl, ?_⟩⟩
    show [[D.lf (.bool true)]] = [[D.lf (.bool (eqX a b))]]
    rw [h]
theorem eqTree_ok : FnOk Tryd.prog 9 (cEq treeDs) := fnOk_of fun x => fnX_at tab_ok (SOk.cons eqNodeS_ok SOk.nil) mixed (fn := Tryd.f9) (code := body Tryd.f9) ⟨Tryd.func9, rfl, by kernel_rfl, by kernel_rfl, by kernel_rfl, by kernel_rfl⟩ (ev_eqTree x)
end Go.Vm
namespace Go.Vm
open Go.Proofs
set_option maxRecDepth 100000
set_option linter.unusedVariables false
set_option linter.unusedSimpArgs false

end Go.Vm
namespace Go.Vm
open Go.Proofs
set_option maxRecDepth 100000
set_option linter.unusedVariables false
set_option linter.unusedSimpArgs false

end Go.Vm
namespace Go.Vm
open Go.Proofs
set_option maxRecDepth 100000
set_option linter.unusedVariables false
set_option linter.unusedSimpArgs false

structure NodesY where
  l : List NodeX
  hl : l.length ≤ 1048576
  h : ∀ n ∈ l, nodeB n
/-- A node that may not be there yet. -/
def nodeO : Option NodeX → List D
  | none => [.lf (.slice none 0 0), .lf (.slice none 0 0), .lf (.slice none 0 0)]
  | some n => n.ds
theorem nodeO_len (o : Option NodeX) : (nodeO o).length = 3 := by cases o <;> rfl
theorem ev_toNodeS : ∀ x, evFnX tab [(1000006, cGh), (25, (pureC NodeY [(.rd, true)] [true] (fun x => [x.x.ds]) (fun x => [x.x.ds])))] (pureC NodesY [(.rd, false)] [false] (fun x => [[.row 3 NodeX.ds x.l]]) (fun x => [[.row 3 NodeX.ds x.l]])) Tryd.f14 (body Tryd.f14) x := by
  rintro ⟨l, hl, hb⟩
  replace hl : l.length ≤ 1048576 := hl
  conv => whnf
  intro h1
  conv => whnf
  refine ⟨Int.natCast_nonneg _, rfl, ?_, ?_⟩
  · show (l.length : Int) ≤ (4294967296 : Nat); omega
  conv => whnf
  refine ⟨Option NodeX, nodeO, none, nodeO_len, rfl, ?_⟩
  conv => whnf
  refine ⟨fun m s h => ∃ (i : Nat) (l' : List (Option NodeX)), i ≤ l.length ∧ l'.length = l.length ∧ (∀ j y, j < i → l[j]? = some y → l'[j]? = some (some y)) ∧ m = l.length - i ∧ s = [(0, .sl 0 none), (3, .sl 112 none), (4, .lf (.int .i64 i))] ∧ h = [(112, some (.row .own 3 nodeO l')), (0, some (.row .lent 3 NodeX.ds l))],
    l.length, [(112, 112), (0, 0)], [(0, .sl 0 none), (3, .sl 112 none), (4, .lf (.int .i64 0))], [(112, some (.row .own 3 nodeO (List.replicate (l.length : Int).toNat none))), (0, some (.row .lent 3 NodeX.ds l))], ⟨rfl, ⟨rfl, rfl, rfl, trivial⟩, ⟨rfl, rfl, trivial⟩⟩,
    ⟨0, _, by omega, by rw [List.length_replicate, Int.toNat_natCast], fun j y h => by omega, by omega, rfl, rfl⟩, ?_⟩
  rintro m _ _ ⟨i, l', g1, g2, g3, rfl, rfl, rfl⟩
  conv => whnf
  intro _
  conv => whnf
  refine br2 (fun h5 => ?_) (fun h5 => ?_)
  · have hi : i < l.length := by have := of_decide_eq_true h5; omega
    obtain ⟨y, hy⟩ := getL hi
    obtain ⟨z, hz⟩ := getL (l := l') (j := i) (by omega)
    conv => whnf
    refine ⟨Int.natCast_nonneg _, ltI hy, ?_⟩
    conv => whnf
    refine ex2 _ (nthI hy) ?_
    conv => whnf
    refine ⟨⟨y, hb y (List.mem_of_getElem? hy)⟩, rfl, ?_⟩
    rintro _ _ ⟨rfl, rfl⟩
    conv => whnf
    have back : ∀ {s' : Sl} {h' : Hp}, Le [(112, 112), (0, 0)] [(0, .sl 0 none), (3, .sl 112 none), (4, .lf (.int .i64 ((i + 1 : Nat) : Int)))] [(112, some (.row .own 3 nodeO (l'.set i (some y)))), (0, some (.row .lent 3 NodeX.ds l))] s' h' →
        ∃ m' ρ s'' h'', m' < l.length - i ∧ Le ρ s'' h'' s' h' ∧ ∃ (i : Nat) (l' : List (Option NodeX)), i ≤ l.length ∧ l'.length = l.length ∧ (∀ j y, j < i → l[j]? = some y → l'[j]? = some (some y)) ∧ m' = l.length - i ∧ s'' = [(0, .sl 0 none), (3, .sl 112 none), (4, .lf (.int .i64 i))] ∧ h'' = [(112, some (.row .own 3 nodeO l')), (0, some (.row .lent 3 NodeX.ds l))] := fun hle =>
      ⟨l.length - (i + 1), _, _, _, by omega, hle, i + 1, l'.set i (some y), by omega, by simpa using g2, fun j w hj hw => by
        rw [List.getElem?_set]
        by_cases e : i = j
        · subst e; rw [if_pos rfl, if_pos (by omega)]; rw [hy] at hw; rw [Option.some.inj hw]
        · rw [if_neg e]; exact g3 j w (by omega) hw, rfl, rfl, rfl⟩
    rcases z with _ | z
    all_goals
      refine ⟨Int.natCast_nonneg _, ltI hz, ?_⟩
      conv => whnf
      refine ex2 _ (nthI hz) ?_
      conv => whnf
      refine ⟨some y, rfl, ?_⟩
      conv => whnf
      exact back ⟨rfl, ⟨rfl, rfl, incI hi (by omega), trivial⟩, by rfl, rfl, trivial⟩
  · have hi : i = l.length := by have := of_decide_eq_false h5; omega
    subst hi
    conv => whnf
    refine ⟨[.enc 112], ?_⟩
    conv => whnf
    refine ⟨NodeX, NodeX.ds, l, fun _ => rfl, ?_, ?_⟩
    · apply List.ext_getElem?
      intro j
      rw [List.getElem?_map, List.getElem?_map]
      rcases Nat.lt_or_ge j l.length with h | h
      · obtain ⟨y, hy⟩ := getL h
        rw [g3 j y h hy, hy]; rfl
      · rw [List.getElem?_eq_none (by omega), List.getElem?_eq_none (by omega)]; rfl
    conv => whnf
    exact ⟨⟨rfl, rfl⟩⟩
theorem toNodeS_ok : FnOk Tryd.prog 14 (pureC NodesY [(.rd, false)] [false] (fun x => [[.row 3 NodeX.ds x.l]]) (fun x => [[.row 3 NodeX.ds x.l]])) := fnOk_of fun x => fnX_at tab_ok (SOk.cons gh_ok (SOk.cons toNode_ok SOk.nil)) mixed (fn := Tryd.f14) (code := body Tryd.f14) ⟨Tryd.func14, rfl, by kernel_rfl, by kernel_rfl, by kernel_rfl, by kernel_rfl⟩ (ev_toNodeS x)
theorem ev_toTree : ∀ x, evFnX tab [(14, (pureC NodesY [(.rd, false)] [false] (fun x => [[.row 3 NodeX.ds x.l]]) (fun x => [[.row 3 NodeX.ds x.l]])))] (pureC NodesY [(.rd, true)] [true] (fun x => [treeDs x.l]) (fun x => [treeDs x.l])) Tryd.f6 (body Tryd.f6) x := by
  rintro ⟨l, hl, hb⟩
  conv => whnf
  refine ⟨⟨l, hl, hb⟩, rfl, ?_⟩
  rintro _ _ ⟨rfl, rfl⟩
  conv => whnf
  exact ⟨⟨rfl, rfl⟩⟩
theorem toTree_ok : FnOk Tryd.prog 6 (pureC NodesY [(.rd, true)] [true] (fun x => [treeDs x.l]) (fun x => [treeDs x.l])) := fnOk_of fun x => fnX_at tab_ok (SOk.cons toNodeS_ok SOk.nil) mixed (fn := Tryd.f6) (code := body Tryd.f6) ⟨Tryd.func6, rfl, by kernel_rfl, by kernel_rfl, by kernel_rfl, by kernel_rfl⟩ (ev_toTree x)
/-! Marks -/
end Go.Vm
namespace Go.Vm
open Go.Proofs
set_option maxRecDepth 100000
set_option linter.unusedVariables false
set_option linter.unusedSimpArgs false

end Go.Vm
namespace Go.Vm
open Go.Proofs
set_option maxRecDepth 100000
set_option linter.unusedVariables false
set_option linter.unusedSimpArgs false

/-- The key under which a coordinator's last transaction stands. -/
def hKey (c : Int) : ByteArray := ⟨#[104]⟩ ++ numT c
structure LastL (l : List RngX) (c : Int) (x : TxX) : Prop where
  neg : c < 0 → x = tx0
  no : 0 ≤ c → getV (hKey c) l = none → x = tx0
  yes : ∀ v, 0 ≤ c → getV (hKey c) l = some v → ∃ ok, TextTxR v x ok
def LastT (N : List NodeX) (c : Int) (x : TxX) : Prop := ∃ l, AllR N l ∧ LastL l c x
theorem LastT.same {N : List NodeX} {c : Int} {x y : TxX} (h : LastT N c x) (h' : LastT N c y) : x = y := by
  obtain ⟨l, a, b⟩ := h
  obtain ⟨l', a', b'⟩ := h'
  have := a.uniq a'
  subst this
  rcases Int.lt_or_le c 0 with hc | hc
  · rw [b.neg hc, b'.neg hc]
  · cases e : getV (hKey c) l with
    | none => rw [b.no hc e, b'.no hc e]
    | some v =>
      obtain ⟨o, r⟩ := b.yes v hc e
      obtain ⟨o', r'⟩ := b'.yes v hc e
      exact (r.same r').1
structure LastX where
  l : List RngX
  h : PairsOkP l
  c : Int
  h1 : -9223372036854775808 ≤ c
  h2 : c ≤ 9223372036854775807
def cLast0 : Con := relC LastX [(.rd, false), (.rd, false)] [true] (fun x => [[.row 2 RngX.ds x.l], [.lf (.int .i64 x.c)]]) (fun x r => ∃ t : TxX, r = [t.ds] ∧ LastL x.l x.c t)
theorem hKey_le (c : Int) : (⟨#[104]⟩ : ByteArray).size + (numT c).size ≤ 4294967296 := by
  have := numT_size c
  have e : (⟨#[104]⟩ : ByteArray).size = 1 := rfl
  omega
theorem ev_iLast0 : ∀ x, evFnX tab [(26, cNumText), (27, cTextTx)] cLast0 Tryd.f15 (body Tryd.f15) x := by
  rintro ⟨l, hP, c, h1, h2⟩
  have hl : l.length ≤ 200 := hP.len
  conv => whnf
  refine br2 (fun h3 => ?_) (fun h3 => ?_)
  · have hc : c < 0 := of_decide_eq_true h3
    conv => whnf
    exact ⟨⟨rfl, tx0, rfl, fun _ => rfl, fun h => absurd hc (by show ¬ c < 0; replace h : 0 ≤ c := h; omega), fun v h => absurd hc (by show ¬ c < 0; replace h : 0 ≤ c := h; omega)⟩⟩
  have hc : 0 ≤ c := by have : ¬ c < 0 := of_decide_eq_false h3; omega
  conv => whnf
  intro _
  conv => whnf
  let S0 : Nat → Sl := fun i => [(14, .lf (.int .i64 i)), (13, .lf (.int .i64 l.length)), (12, .sl 0 none), (1, .lf (.int .i64 c)), (4, .pt 64 0 0)]
  let H0 : Hp := [(0, some (.row .lent 2 RngX.ds l)), (64, some (.arr true 3 [[.lf (.int .i64 0), .lf (.int .i64 0), .lf (.int .i64 0)]]))]
  refine ⟨fun m s h => ∃ i : Nat, i ≤ l.length ∧ (∀ a ∈ l.take i, a.lo ≠ hKey c) ∧ m = l.length - i ∧ s = S0 i ∧ h = H0, l.length, [(0, 0), (64, 64)], S0 0, H0, ⟨rfl, ⟨rfl, rfl, rfl, rfl, rfl, trivial⟩, rfl, rfl, trivial⟩, ⟨0, by omega, by simp, by omega, rfl, rfl⟩, ?_⟩
  rintro m _ _ ⟨i, g1, g2, rfl, rfl, rfl⟩
  conv => whnf
  refine br2 (fun h5 => ?_) (fun h5 => ?_)
  · have hi : i < l.length := by have := of_decide_eq_true h5; omega
    obtain ⟨y, hy⟩ := getL hi
    have hok := hP.ok y (List.mem_of_getElem? hy)
    have hv : y.hi.size ≤ 1048576 := by
      simp [kvOkB] at hok; omega
    have hb := hKey_le c
    conv => whnf
    refine ⟨Int.natCast_nonneg _, ltI hy, ?_⟩
    conv => whnf
    refine ex2 _ (nthI hy) ?_
    conv => whnf
    repeat' ((conv => whnf); first
      | refine rc_i rfl ?_
      | refine rc_i (fun _ => rfl) ?_
      | refine rc_i ⟨hb, rfl⟩ ?_
      | (refine ⟨⟨c, h1, h2⟩, rfl, ?_⟩; rintro _ _ ⟨rfl, rfl⟩)
      | refine ⟨hb, ?_⟩
      | fail)
    refine br2 (fun h6 => ?_) (fun h6 => ?_)
    · have h6' : y.lo = hKey c := strEq_iff.1 h6
      conv => whnf
      refine ⟨⟨y.hi, hv⟩, rfl, ?_⟩
      rintro _ _ ⟨rfl, q, ok, rfl, hq⟩
      conv => whnf
      refine ⟨⟨rfl, q, rfl, fun h => absurd hc (by replace h : c < 0 := h; omega), fun _ e => ?_, fun v _ e => ⟨ok, ?_⟩⟩⟩
      · replace e : getV (hKey c) l = none := e
        rw [getV_at g2 hy h6'] at e; cases e
      · replace e : getV (hKey c) l = some v := e
        rw [getV_at g2 hy h6'] at e; cases e; exact hq
    · have h6' : y.lo ≠ hKey c := strEq_no.1 h6
      conv => whnf
      refine ⟨l.length - (i + 1), [(0, 0), (64, 64)], S0 (i + 1), H0, by omega, ⟨rfl, ⟨incI hi (by omega), rfl, rfl, rfl, rfl, trivial⟩, rfl, rfl, trivial⟩, i + 1, hi, fun a ha => ?_, rfl, rfl, rfl⟩
      rw [List.take_add_one, hy] at ha
      simp at ha
      rcases ha with ha | rfl
      · exact g2 a ha
      · exact h6'
  · have hi : i = l.length := by have := of_decide_eq_false h5; omega
    subst hi
    rw [List.take_length] at g2
    conv => whnf
    refine ⟨⟨rfl, tx0, rfl, fun _ => rfl, fun _ _ => rfl, fun v _ e => ?_⟩⟩
    replace e : getV (hKey c) l = some v := e
    rw [getV_no g2] at e; cases e
theorem iLast0_ok : FnOk Tryd.prog 15 cLast0 := fnOk_of fun x => fnX_at tab_ok (SOk.cons iNumText_ok (SOk.cons iTextTx_ok SOk.nil)) mixed (fn := Tryd.f15) (code := body Tryd.f15) ⟨Tryd.func15, rfl, by kernel_rfl, by kernel_rfl, by kernel_rfl, by kernel_rfl⟩ (ev_iLast0 x)
structure LastTX where
  t : TreeX
  c : Int
  h1 : -9223372036854775808 ≤ c
  h2 : c ≤ 9223372036854775807
def cLast : Con := relC LastTX [(.rd, true), (.rd, false)] [true] (fun x => [[.row 3 NodeX.ds x.t.N], [.lf (.int .i64 x.c)]]) (fun x r => ∃ t : TxX, r = [t.ds] ∧ LastT x.t.N x.c t)
theorem ev_iLast : ∀ x, evFnX tab [(16, cTreeAll), (15, cLast0)] cLast Tryd.f7 (body Tryd.f7) x := by
  rintro ⟨⟨N, f, hf, hN, hp⟩, c, h1, h2⟩
  conv => whnf
  refine ⟨⟨N, f, hf, hN, hp⟩, rfl, ?_⟩
  rintro _ _ ⟨rfl, l, rfl, ha⟩
  conv => whnf
  replace ha : AllR N l := ha
  refine ⟨⟨l, ha.okk, c, h1, h2⟩, rfl, ?_⟩
  rintro _ _ ⟨rfl, t, rfl, ht⟩
  conv => whnf
  exact ⟨⟨rfl, t, rfl, l, ha, ht⟩⟩
theorem iLast_ok : FnOk Tryd.prog 7 cLast := fnOk_of fun x => fnX_at tab_ok (SOk.cons iTreeAll_ok (SOk.cons iLast0_ok SOk.nil)) mixed (fn := Tryd.f7) (code := body Tryd.f7) ⟨Tryd.func7, rfl, by kernel_rfl, by kernel_rfl, by kernel_rfl, by kernel_rfl⟩ (ev_iLast x)
theorem AllR.ex (N : List NodeX) : ∃ l, AllR N l := by
  by_cases hT : TreeP N
  · obtain ⟨o, ho, e⟩ := hT
    exact ⟨allO o, fun o' ho' e' => by rw [layO_inj (e.symm.trans e')], fun h => absurd ⟨o, ho, e⟩ h⟩
  · exact ⟨[], fun o ho e => absurd ⟨o, ho, e⟩ hT, fun _ => rfl⟩
theorem getV_mem {k v : ByteArray} {l : List RngX} (h : getV k l = some v) : ∃ p ∈ l, p.hi = v := by
  unfold getV at h
  cases e : l.find? (fun p => eqK p.lo k) with
  | none => rw [e] at h; cases h
  | some p => rw [e] at h; cases h; exact ⟨p, List.mem_of_find?_eq_some e, rfl⟩
theorem ev_sLast : ∀ x, evFnX tab [(12, cNumText), (11, cTGet), (13, cTextTx)] cLast Tryd.f5 (body Tryd.f5) x := by
  rintro ⟨⟨N, f, hf, hN, hp⟩, c, h1, h2⟩
  have hb := hKey_le c
  obtain ⟨l, hl⟩ := AllR.ex N
  repeat' ((conv => whnf); first
    | refine rc_i rfl ?_
    | refine rc_i (fun _ => rfl) ?_
    | refine rc_i ⟨hb, rfl⟩ ?_
    | (refine ⟨⟨c, h1, h2⟩, rfl, ?_⟩; rintro _ _ ⟨rfl, rfl⟩)
    | (refine ⟨⟨⟨N, f, hf, hN, hp⟩, hKey c⟩, rfl, ?_⟩; rintro _ _ ⟨rfl, v, ok, rfl, hv⟩)
    | refine ⟨hb, ?_⟩
    | fail)
  replace hv : TGetR N (hKey c) v ok := hv
  have hg := hv.yes l hl
  have hvs : v.size ≤ 1048576 := by
    cases ok with
    | false => rw [hv.no rfl]; decide
    | true =>
      obtain ⟨p, hp, rfl⟩ := getV_mem hg
      have := hl.okk.ok p hp
      simp [kvOkB] at this; omega
  refine ⟨⟨v, hvs⟩, rfl, ?_⟩
  rintro _ _ ⟨rfl, x, is, rfl, hx⟩
  replace hx : TextTxR v x is := hx
  have non : c < 0 ∨ ok = false ∨ is = false → ∃ t : TxX, [tx0.ds] = [t.ds] ∧ LastT N c t := fun h => by
    refine ⟨tx0, rfl, l, hl, fun _ => rfl, fun _ _ => rfl, fun w hc e => ?_⟩
    rw [hg] at e
    cases ok with
    | false => cases e
    | true =>
      cases e
      rcases h with h | h | h
      · omega
      · cases h
      · subst h
        rw [hx.no rfl] at hx
        exact ⟨false, hx⟩
  cases ok with
  | false =>
    conv => whnf
    exact ⟨⟨rfl, non (.inr (.inl rfl))⟩⟩
  | true =>
    cases is with
    | false =>
      conv => whnf
      exact ⟨⟨rfl, non (.inr (.inr rfl))⟩⟩
    | true =>
      conv => whnf
      refine br2 (fun h3 => ?_) (fun h3 => ?_)
      · conv => whnf
        exact ⟨⟨rfl, non (.inl (of_decide_eq_true h3))⟩⟩
      · have hc : ¬ c < 0 := of_decide_eq_false h3
        conv => whnf
        refine ⟨⟨rfl, x, rfl, l, hl, fun h => absurd h hc, fun _ e => ?_, fun w _ e => ?_⟩⟩
        · replace e : getV (hKey c) l = none := e
          rw [hg] at e; cases e
        · replace e : getV (hKey c) l = some w := e
          rw [hg] at e; cases e; exact ⟨true, hx⟩
theorem sLast_ok : FnOk Tryd.prog 5 cLast := fnOk_of fun x => fnX_at tab_ok (SOk.cons sNumText_ok (SOk.cons sTreeGet_ok (SOk.cons sTextTx_ok SOk.nil))) mixed (fn := Tryd.f5) (code := body Tryd.f5) ⟨Tryd.func5, rfl, by kernel_rfl, by kernel_rfl, by kernel_rfl, by kernel_rfl⟩ (ev_sLast x)
theorem i64_wf {a : Int} (h : (Lit.int .i64 a).wf = true) : -9223372036854775808 ≤ a ∧ a ≤ 9223372036854775807 := by
  have h1 := of_decide_eq_true (Bool.and_eq_true_iff.1 h).1
  have h2 := of_decide_eq_true (Bool.and_eq_true_iff.1 h).2
  have e1 : IntKind.i64.min = -9223372036854775808 := by decide
  have e2 : IntKind.i64.max = 9223372036854775807 := by decide
  rw [e1] at h1; rw [e2] at h2; exact ⟨h1, h2⟩
structure LastZ where
  N : List NodeX
  c : Int
  hN : nodesB0 N
  h1 : -9223372036854775808 ≤ c
  h2 : c ≤ 9223372036854775807
theorem ev_lawLastOf : ∀ x, evFnX tab [(4, (cSz treeDs nodesB0 nodesB)), (6, (pureC NodesY [(.rd, true)] [true] (fun x => [treeDs x.l]) (fun x => [treeDs x.l]))), (5, cLast), (7, cLast), (8, (cEq TxX.ds)), (9, (cEq treeDs))] (pureC LastZ [(.rd, true), (.rd, false)] [false] (fun x => [treeDs x.N, [.lf (.int .i64 x.c)]]) (fun _ => [[.lf (.bool true)]])) Tryd.f3 (body Tryd.f3) x := by
  rintro ⟨N, c, hN, c1, c2⟩
  conv => whnf
  refine ⟨⟨N, 1048576, by omega, by omega, hN⟩, rfl, ?_⟩
  rintro _ _ ⟨rfl, q, rfl, k1, k2, k3⟩
  conv => whnf
  replace k2 : q ≤ 1048576 := k2
  refine br2 (fun h3 => ?_) (fun h3 => ?_)
  · conv => whnf
    exact ⟨⟨rfl, rfl⟩⟩
  have h3' := of_decide_eq_false h3
  obtain ⟨hl, hb⟩ := k3 (by omega)
  replace hl : N.length ≤ 1048576 := hl
  replace hb : ∀ n ∈ N, nodeB n := hb
  have hp : ∀ n ∈ N, n.ps.length ≤ 1048576 := fun n hn => (hb n hn).1
  conv => whnf
  refine ⟨⟨N, hl, hb⟩, rfl, ?_⟩
  rintro _ _ ⟨rfl, rfl⟩
  conv => whnf
  refine ⟨⟨⟨N, N.length, Nat.le_refl _, hl, hp⟩, c, c1, c2⟩, rfl, ?_⟩
  rintro _ _ ⟨rfl, U, rfl, r1⟩
  conv => whnf
  refine ⟨⟨N, hl, hb⟩, rfl, ?_⟩
  rintro _ _ ⟨rfl, rfl⟩
  conv => whnf
  refine ⟨⟨⟨N, N.length, Nat.le_refl _, hl, hp⟩, c, c1, c2⟩, rfl, ?_⟩
  rintro _ _ ⟨rfl, U', rfl, r2⟩
  conv => whnf
  obtain rfl := LastT.same r1 r2
  clear r2
  have hN0 : (!eqX N N) = false := by rw [eqX_refl]; rfl
  have hU0 : (!eqX U U) = false := by rw [eqX_refl]; rfl
  refine ⟨(U, U), rfl, ?_⟩
  rintro _ _ ⟨rfl, rfl⟩
  conv => whnf
  refine br2 (fun h4 => ?_) (fun h4 => ?_)
  · exact absurd (hU0.symm.trans h4) (by simp)
  conv => whnf
  refine ⟨⟨N, hl, hb⟩, rfl, ?_⟩
  rintro _ _ ⟨rfl, rfl⟩
  conv => whnf
  repeat ((first | refine rc_i rfl ?_ | refine rc_i (fun _ => rfl) ?_); conv => whnf)
  refine ⟨(N, N), rfl, ?_⟩
  rintro _ _ ⟨rfl, rfl⟩
  conv => whnf
  repeat ((first | refine rc_i rfl ?_ | refine rc_i (fun _ => rfl) ?_); conv => whnf)
  refine br2 (fun h6 => ?_) (fun h6 => ?_)
  · exact absurd (hN0.symm.trans h6) (by simp)
  conv => whnf
  exact ⟨⟨rfl, rfl⟩⟩
theorem lawLastOf_ok : FnOk Tryd.prog 3 (pureC LastZ [(.rd, true), (.rd, false)] [false] (fun x => [treeDs x.N, [.lf (.int .i64 x.c)]]) (fun _ => [[.lf (.bool true)]])) := fnOk_of fun x => fnX_at tab_ok (SOk.cons szTree_ok (SOk.cons toTree_ok (SOk.cons sLast_ok (SOk.cons iLast_ok (SOk.cons eqTx_ok (SOk.cons eqTree_ok SOk.nil)))))) mixed (fn := Tryd.f3) (code := body Tryd.f3) ⟨Tryd.func3, rfl, by kernel_rfl, by kernel_rfl, by kernel_rfl, by kernel_rfl⟩ (ev_lawLastOf x)
end Go.Vm
