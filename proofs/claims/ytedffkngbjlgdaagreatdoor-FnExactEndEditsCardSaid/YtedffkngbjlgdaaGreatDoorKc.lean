/- Contracts: what the laws do with texts, numbers, nodes and trees: sizes, copies, equality. -/
import Derived.Test.YtedffkngbjlgdaaGreatDoorKa
import Derived.Test.YtedffkngbjlgdaaGreatDoorKb
namespace Go.Vm
open Go.Proofs
set_option maxRecDepth 100000
set_option linter.unusedVariables false
set_option linter.unusedSimpArgs false

def strB0 (s : ByteArray) : Prop := s.size ≤ maxS
def strB1 (s : ByteArray) : Prop := s.size ≤ 1048576
def intB0 (n : Int) : Prop := True
theorem ev_szStringS : ∀ x, evFnX tab [] (cSzS 1 strE1 strB0 strB1) Tryz.f118 (body Tryz.f118) x := by
  rintro ⟨l, left, h1, h2, hb0, hb⟩
  replace hb0 : l.length ≤ 9223372036854775807 := hb0
  conv => whnf
  intro h3
  conv => whnf
  have e1 : IntKind.i64.wrap (left - (l.length : Int)) = left - l.length := w64 (by omega) (by omega)
  refine br2 (fun h4 => ?_) (fun h4 => ?_)
  · conv => whnf
    exact ⟨⟨rfl, -1, rfl, by omega, (show (-1 : Int) ≤ left by omega), fun h => by omega⟩⟩
  replace h4 : decide (IntKind.i64.wrap (left - (l.length : Int)) < 0) = false := h4
  rw [e1] at h4
  have h4' := of_decide_eq_false h4
  conv => whnf
  refine ⟨fun m s h => ∃ (i : Nat) (k : Int), i ≤ l.length ∧ 0 ≤ k ∧ k ≤ left - l.length ∧ (∀ j y, j < i → l[j]? = some y → strB1 y) ∧ m = l.length - i ∧ s = [(0, .sl 0 none), (1, .lf (.int .i64 k)), (5, .lf (.int .i64 i))] ∧ h = [(0, some (.row .lent 1 strE1 l))],
    l.length, [(0, 0)], [(0, .sl 0 none), (1, .lf (.int .i64 (left - l.length))), (5, .lf (.int .i64 0))], [(0, some (.row .lent 1 strE1 l))], ⟨rfl, ⟨rfl, ?_, rfl, trivial⟩, ⟨rfl, trivial⟩⟩, ⟨0, left - l.length, by omega, by omega, by omega, fun j y h => by omega, by omega, rfl, rfl⟩, ?_⟩
  · show V.lf (.int .i64 (IntKind.i64.wrap (left - (l.length : Int)))) = _
    rw [e1]
  rintro m _ _ ⟨i, k, g1, g2, g3, g4, rfl, rfl, rfl⟩
  conv => whnf
  intro _
  conv => whnf
  refine br2 (fun h5 => ?_) (fun h5 => ?_)
  · have hi : i < l.length := by have := of_decide_eq_true h5; omega
    obtain ⟨y, hy⟩ := getL hi
    have hys : y.size ≤ 9223372036854775807 := hb y (List.mem_of_getElem? hy)
    have e2 : IntKind.i64.wrap (k - (y.size : Int)) = k - y.size := w64 (by omega) (by omega)
    conv => whnf
    refine ⟨Int.natCast_nonneg _, ltI hy, ?_⟩
    conv => whnf
    refine ex2 _ (nthI hy) ?_
    conv => whnf
    refine br2 (fun h6 => ?_) (fun h6 => ?_)
    · conv => whnf
      exact ⟨⟨rfl, -1, rfl, by omega, (show (-1 : Int) ≤ left by omega), fun h => by omega⟩⟩
    · replace h6 : decide (IntKind.i64.wrap (k - (y.size : Int)) < 0) = false := h6
      rw [e2] at h6
      have h6' := of_decide_eq_false h6
      conv => whnf
      refine ⟨l.length - (i + 1), [(0, 0)], [(0, .sl 0 none), (1, .lf (.int .i64 (k - y.size))), (5, .lf (.int .i64 ((i + 1 : Nat) : Int)))], [(0, some (.row .lent 1 strE1 l))], by omega, ⟨rfl, ⟨rfl, ?_, incI hi hb0, trivial⟩, ⟨rfl, trivial⟩⟩, i + 1, k - y.size, by omega, by omega, by omega, fun j z hj hz => ?_, rfl, rfl, rfl⟩
      · show V.lf (.int .i64 (IntKind.i64.wrap (k - (y.size : Int)))) = _
        rw [e2]
      · rcases Nat.lt_or_ge j i with h7 | h7
        · exact g4 j z h7 hz
        · obtain rfl : j = i := by omega
          rw [hy] at hz; cases hz
          unfold strB1; omega
  · have hi : i = l.length := by have := of_decide_eq_false h5; omega
    conv => whnf
    refine ⟨⟨rfl, k, rfl, by omega, (show k ≤ left by omega), fun _ => (⟨by omega, fun y hy => ?_⟩ : (l.length : Int) + k ≤ left ∧ ∀ y ∈ l, strB1 y)⟩⟩
    obtain ⟨j, hj⟩ := List.getElem?_of_mem hy
    exact g4 j y (by rw [hi]; exact (List.getElem?_eq_some_iff.1 hj).1) hj
theorem szStringS_ok : FnOk Tryz.prog 118 (cSzS 1 strE1 strB0 strB1) := fnOk_of fun x => fnX_at tab_ok (SOk.nil) mixed (fn := Tryz.f118) (code := body Tryz.f118) ⟨Tryz.func118, rfl, by kernel_rfl, by kernel_rfl, by kernel_rfl, by kernel_rfl⟩ (ev_szStringS x)
theorem ev_szIntS : ∀ x, evFnX tab [] (cSzS 1 intE1 intB0 intB0) Tryz.f119 (body Tryz.f119) x := by
  rintro ⟨l, left, h1, h2, hb0, hb⟩
  replace hb0 : l.length ≤ 9223372036854775807 := hb0
  conv => whnf
  intro h3
  conv => whnf
  have e1 : IntKind.i64.wrap (left - (l.length : Int)) = left - l.length := w64 (by omega) (by omega)
  refine br2 (fun h4 => ?_) (fun h4 => ?_)
  · conv => whnf
    exact ⟨⟨rfl, -1, rfl, by omega, (show (-1 : Int) ≤ left by omega), fun h => by omega⟩⟩
  replace h4 : decide (IntKind.i64.wrap (left - (l.length : Int)) < 0) = false := h4
  rw [e1] at h4
  have h4' := of_decide_eq_false h4
  conv => whnf
  refine ⟨⟨rfl, _, rfl, ?_, ?_, fun _ => (⟨?_, fun y _ => trivial⟩ : (l.length : Int) + IntKind.i64.wrap (left - (l.length : Int)) ≤ left ∧ ∀ y ∈ l, intB0 y)⟩⟩
  · show -1 ≤ IntKind.i64.wrap (left - (l.length : Int)); rw [e1]; omega
  · show IntKind.i64.wrap (left - (l.length : Int)) ≤ left; rw [e1]; omega
  · rw [e1]; omega
theorem szIntS_ok : FnOk Tryz.prog 119 (cSzS 1 intE1 intB0 intB0) := fnOk_of fun x => fnX_at tab_ok (SOk.nil) mixed (fn := Tryz.f119) (code := body Tryz.f119) ⟨Tryz.func119, rfl, by kernel_rfl, by kernel_rfl, by kernel_rfl, by kernel_rfl⟩ (ev_szIntS x)
theorem ev_toStringS : ∀ x, evFnX tab [] (cCopyS 1 strE1) Tryz.f125 (body Tryz.f125) x := by
  rintro ⟨l, hl⟩
  conv => whnf
  intro h1
  conv => whnf
  refine ⟨Int.natCast_nonneg _, rfl, ?_, ?_⟩
  · show (l.length : Int) ≤ (4294967296 : Nat); omega
  conv => whnf
  refine ⟨ByteArray, strE1, (⟨#[]⟩ : ByteArray), fun _ => rfl, rfl, ?_⟩
  conv => whnf
  refine ⟨fun m s h => ∃ (i : Nat) (l' : List ByteArray), i ≤ l.length ∧ l'.length = l.length ∧ (∀ j, j < i → l'[j]? = l[j]?) ∧ m = l.length - i ∧ s = [(0, .sl 0 none), (3, .sl 112 none), (4, .lf (.int .i64 i))] ∧ h = [(112, some (.row .own 1 strE1 l')), (0, some (.row .lent 1 strE1 l))],
    l.length, [(112, 112), (0, 0)], [(0, .sl 0 none), (3, .sl 112 none), (4, .lf (.int .i64 0))], [(112, some (.row .own 1 strE1 (List.replicate (l.length : Int).toNat (⟨#[]⟩ : ByteArray)))), (0, some (.row .lent 1 strE1 l))], ⟨rfl, ⟨rfl, rfl, rfl, trivial⟩, ⟨rfl, rfl, trivial⟩⟩,
    ⟨0, _, by omega, by rw [List.length_replicate, Int.toNat_natCast], fun j h => by omega, by omega, rfl, rfl⟩, ?_⟩
  rintro m _ _ ⟨i, l', g1, g2, g3, rfl, rfl, rfl⟩
  conv => whnf
  intro _
  conv => whnf
  refine br2 (fun h5 => ?_) (fun h5 => ?_)
  · have hi : i < l.length := by have := of_decide_eq_true h5; omega
    obtain ⟨y, hy⟩ : ∃ y, l[i]? = some y := ⟨_, List.getElem?_eq_getElem hi⟩
    have hy2 : nth l ((i : Nat) : Int).toNat = some y := by rw [nth_eq, Int.toNat_natCast]; exact hy
    obtain ⟨z, hz⟩ : ∃ z, l'[i]? = some z := ⟨_, List.getElem?_eq_getElem (by omega)⟩
    have hz2 : nth l' ((i : Nat) : Int).toNat = some z := by rw [nth_eq, Int.toNat_natCast]; exact hz
    conv => whnf
    refine ⟨Int.natCast_nonneg _, (show (i : Int) < (l.length : Int) by omega), ?_⟩
    conv => whnf
    refine ex2 y hy2 ?_
    conv => whnf
    refine ⟨Int.natCast_nonneg _, (show (i : Int) < (l'.length : Int) by omega), ?_⟩
    conv => whnf
    refine ex2 z hz2 ?_
    conv => whnf
    refine ⟨y, rfl, ?_⟩
    conv => whnf
    refine ⟨l.length - (i + 1), [(112, 112), (0, 0)], [(0, .sl 0 none), (3, .sl 112 none), (4, .lf (.int .i64 ((i + 1 : Nat) : Int)))], [(112, some (.row .own 1 strE1 (l'.set (i : Int).toNat y))), (0, some (.row .lent 1 strE1 l))], by omega, ⟨rfl, ⟨rfl, rfl, ?_, trivial⟩, ⟨rfl, rfl, trivial⟩⟩, i + 1, _, by omega, ?_, fun j hj => ?_, rfl, rfl, rfl⟩
    · show V.lf (.int .i64 (IntKind.i64.wrap ((i : Int) + 1))) = _
      rw [w64 (by omega) (by omega)]; rfl
    · rw [List.length_set]; exact g2
    · rw [Int.toNat_natCast, set_at (by omega)]
      split
      · rename_i e; subst e; exact hy.symm
      · exact g3 j (by omega)
  · have hi : i = l.length := by have := of_decide_eq_false h5; omega
    conv => whnf
    refine ⟨⟨rfl, ?_⟩⟩
    have : l' = l := by
      apply List.ext_getElem?
      intro j
      rcases Nat.lt_or_ge j l.length with h | h
      · exact g3 j (by omega)
      · rw [List.getElem?_eq_none (by omega), List.getElem?_eq_none h]
    show [[D.row _ strE1 l']] = [[D.row 1 strE1 l]]
    rw [this]
theorem toStringS_ok : FnOk Tryz.prog 125 (cCopyS 1 strE1) := fnOk_of fun x => fnX_at tab_ok (SOk.nil) mixed (fn := Tryz.f125) (code := body Tryz.f125) ⟨Tryz.func125, rfl, by kernel_rfl, by kernel_rfl, by kernel_rfl, by kernel_rfl⟩ (ev_toStringS x)
theorem ev_toIntS : ∀ x, evFnX tab [] (cCopyS 1 intE1) Tryz.f126 (body Tryz.f126) x := by
  rintro ⟨l, hl⟩
  conv => whnf
  intro h1
  conv => whnf
  refine ⟨Int.natCast_nonneg _, rfl, ?_, ?_⟩
  · show (l.length : Int) ≤ (4294967296 : Nat); omega
  conv => whnf
  refine ⟨Int, intE1, (0 : Int), fun _ => rfl, rfl, ?_⟩
  conv => whnf
  refine ⟨fun m s h => ∃ (i : Nat) (l' : List Int), i ≤ l.length ∧ l'.length = l.length ∧ (∀ j, j < i → l'[j]? = l[j]?) ∧ m = l.length - i ∧ s = [(0, .sl 0 none), (3, .sl 112 none), (4, .lf (.int .i64 i))] ∧ h = [(112, some (.row .own 1 intE1 l')), (0, some (.row .lent 1 intE1 l))],
    l.length, [(112, 112), (0, 0)], [(0, .sl 0 none), (3, .sl 112 none), (4, .lf (.int .i64 0))], [(112, some (.row .own 1 intE1 (List.replicate (l.length : Int).toNat (0 : Int)))), (0, some (.row .lent 1 intE1 l))], ⟨rfl, ⟨rfl, rfl, rfl, trivial⟩, ⟨rfl, rfl, trivial⟩⟩,
    ⟨0, _, by omega, by rw [List.length_replicate, Int.toNat_natCast], fun j h => by omega, by omega, rfl, rfl⟩, ?_⟩
  rintro m _ _ ⟨i, l', g1, g2, g3, rfl, rfl, rfl⟩
  conv => whnf
  intro _
  conv => whnf
  refine br2 (fun h5 => ?_) (fun h5 => ?_)
  · have hi : i < l.length := by have := of_decide_eq_true h5; omega
    obtain ⟨y, hy⟩ : ∃ y, l[i]? = some y := ⟨_, List.getElem?_eq_getElem hi⟩
    have hy2 : nth l ((i : Nat) : Int).toNat = some y := by rw [nth_eq, Int.toNat_natCast]; exact hy
    obtain ⟨z, hz⟩ : ∃ z, l'[i]? = some z := ⟨_, List.getElem?_eq_getElem (by omega)⟩
    have hz2 : nth l' ((i : Nat) : Int).toNat = some z := by rw [nth_eq, Int.toNat_natCast]; exact hz
    conv => whnf
    refine ⟨Int.natCast_nonneg _, (show (i : Int) < (l.length : Int) by omega), ?_⟩
    conv => whnf
    refine ex2 y hy2 ?_
    conv => whnf
    refine ⟨Int.natCast_nonneg _, (show (i : Int) < (l'.length : Int) by omega), ?_⟩
    conv => whnf
    refine ex2 z hz2 ?_
    conv => whnf
    refine ⟨y, rfl, ?_⟩
    conv => whnf
    refine ⟨l.length - (i + 1), [(112, 112), (0, 0)], [(0, .sl 0 none), (3, .sl 112 none), (4, .lf (.int .i64 ((i + 1 : Nat) : Int)))], [(112, some (.row .own 1 intE1 (l'.set (i : Int).toNat y))), (0, some (.row .lent 1 intE1 l))], by omega, ⟨rfl, ⟨rfl, rfl, ?_, trivial⟩, ⟨rfl, rfl, trivial⟩⟩, i + 1, _, by omega, ?_, fun j hj => ?_, rfl, rfl, rfl⟩
    · show V.lf (.int .i64 (IntKind.i64.wrap ((i : Int) + 1))) = _
      rw [w64 (by omega) (by omega)]; rfl
    · rw [List.length_set]; exact g2
    · rw [Int.toNat_natCast, set_at (by omega)]
      split
      · rename_i e; subst e; exact hy.symm
      · exact g3 j (by omega)
  · have hi : i = l.length := by have := of_decide_eq_false h5; omega
    conv => whnf
    refine ⟨⟨rfl, ?_⟩⟩
    have : l' = l := by
      apply List.ext_getElem?
      intro j
      rcases Nat.lt_or_ge j l.length with h | h
      · exact g3 j (by omega)
      · rw [List.getElem?_eq_none (by omega), List.getElem?_eq_none h]
    show [[D.row _ intE1 l']] = [[D.row 1 intE1 l]]
    rw [this]
theorem toIntS_ok : FnOk Tryz.prog 126 (cCopyS 1 intE1) := fnOk_of fun x => fnX_at tab_ok (SOk.nil) mixed (fn := Tryz.f126) (code := body Tryz.f126) ⟨Tryz.func126, rfl, by kernel_rfl, by kernel_rfl, by kernel_rfl, by kernel_rfl⟩ (ev_toIntS x)
theorem ev_eqStringS : ∀ x, evFnX tab [] (cEqS 1 strE1) Tryz.f133 (body Tryz.f133) x := by
  rintro ⟨l, m⟩
  conv => whnf
  intro h1
  conv => whnf
  intro h2
  conv => whnf
  refine br2 (fun h3 => ?_) (fun h3 => ?_)
  · conv => whnf
    refine ⟨⟨rfl, ?_⟩⟩
    show _ = [[D.lf (.bool (eqX l m))]]
    have : l ≠ m := by rintro rfl; simp at h3
    rw [eqX_no.2 this]
  have hl : l.length = m.length := by
    replace h3 : ((l.length : Int) != (m.length : Int)) = false := h3
    simp at h3; omega
  conv => whnf
  refine ⟨fun k s h => ∃ i : Nat, i ≤ l.length ∧ (∀ j, j < i → l[j]? = m[j]?) ∧ k = l.length - i ∧ s = [(0, .sl 0 none), (1, .sl 16 none), (5, .lf (.int .i64 i))] ∧ h = [(0, some (.row .lent 1 strE1 l)), (16, some (.row .lent 1 strE1 m))],
    l.length, [(0, 0), (16, 16)], [(0, .sl 0 none), (1, .sl 16 none), (5, .lf (.int .i64 0))], [(0, some (.row .lent 1 strE1 l)), (16, some (.row .lent 1 strE1 m))], ⟨rfl, ⟨rfl, rfl, rfl, trivial⟩, ⟨rfl, rfl, trivial⟩⟩, ⟨0, by omega, fun j h => by omega, by omega, rfl, rfl⟩, ?_⟩
  rintro k _ _ ⟨i, g1, g2, rfl, rfl, rfl⟩
  conv => whnf
  intro h4
  conv => whnf
  refine br2 (fun h5 => ?_) (fun h5 => ?_)
  · have hi : i < l.length := by have := of_decide_eq_true h5; omega
    obtain ⟨y, hy⟩ : ∃ y, l[i]? = some y := ⟨_, List.getElem?_eq_getElem hi⟩
    have hy2 : nth l ((i : Nat) : Int).toNat = some y := by rw [nth_eq, Int.toNat_natCast]; exact hy
    obtain ⟨z, hz⟩ : ∃ z, m[i]? = some z := ⟨_, List.getElem?_eq_getElem (by omega)⟩
    have hz2 : nth m ((i : Nat) : Int).toNat = some z := by rw [nth_eq, Int.toNat_natCast]; exact hz
    conv => whnf
    refine ⟨Int.natCast_nonneg _, (show (i : Int) < (l.length : Int) by omega), ?_⟩
    conv => whnf
    refine ex2 y hy2 ?_
    conv => whnf
    refine ⟨Int.natCast_nonneg _, (show (i : Int) < (m.length : Int) by omega), ?_⟩
    conv => whnf
    refine ex2 z hz2 ?_
    conv => whnf
    refine br2 (fun h6 => ?_) (fun h6 => ?_)
    · replace h6 : (!strEq y z) = true := h6
      rw [Bool.not_eq_true', strEq_no] at h6
      conv => whnf
      refine ⟨⟨rfl, ?_⟩⟩
      show _ = [[D.lf (.bool (eqX l m))]]
      have : l ≠ m := by rintro rfl; rw [hy] at hz; cases hz; exact h6 rfl
      rw [eqX_no.2 this]
    · replace h6 : (!strEq y z) = false := h6
      rw [Bool.not_eq_false', strEq_iff] at h6
      conv => whnf
      refine ⟨l.length - (i + 1), [(0, 0), (16, 16)], [(0, .sl 0 none), (1, .sl 16 none), (5, .lf (.int .i64 ((i + 1 : Nat) : Int)))], [(0, some (.row .lent 1 strE1 l)), (16, some (.row .lent 1 strE1 m))], by omega, ⟨rfl, ⟨rfl, rfl, ?_, trivial⟩, ⟨rfl, rfl, trivial⟩⟩, i + 1, by omega, fun j hj => ?_, rfl, rfl, rfl⟩
      · show V.lf (.int .i64 (IntKind.i64.wrap ((i : Int) + 1))) = _
        replace h4 : l.length ≤ 9223372036854775807 := h4
        rw [w64 (by omega) (by omega)]; rfl
      · rcases Nat.lt_or_ge j i with h7 | h7
        · exact g2 j h7
        · obtain rfl : j = i := by omega
          rw [hy, hz, h6]
  · have hi : i = l.length := by have := of_decide_eq_false h5; omega
    conv => whnf
    refine ⟨⟨rfl, ?_⟩⟩
    show _ = [[D.lf (.bool (eqX l m))]]
    have : l = m := by
      apply List.ext_getElem?
      intro j
      rcases Nat.lt_or_ge j l.length with h | h
      · exact g2 j (by omega)
      · rw [List.getElem?_eq_none h, List.getElem?_eq_none (by omega)]
    rw [eqX_iff.2 this]
theorem eqStringS_ok : FnOk Tryz.prog 133 (cEqS 1 strE1) := fnOk_of fun x => fnX_at tab_ok (SOk.nil) mixed (fn := Tryz.f133) (code := body Tryz.f133) ⟨Tryz.func133, rfl, by kernel_rfl, by kernel_rfl, by kernel_rfl, by kernel_rfl⟩ (ev_eqStringS x)
theorem ev_eqIntS : ∀ x, evFnX tab [] (cEqS 1 intE1) Tryz.f134 (body Tryz.f134) x := by
  rintro ⟨l, m⟩
  conv => whnf
  intro h1
  conv => whnf
  intro h2
  conv => whnf
  refine br2 (fun h3 => ?_) (fun h3 => ?_)
  · conv => whnf
    refine ⟨⟨rfl, ?_⟩⟩
    show _ = [[D.lf (.bool (eqX l m))]]
    have : l ≠ m := by rintro rfl; simp at h3
    rw [eqX_no.2 this]
  have hl : l.length = m.length := by
    replace h3 : ((l.length : Int) != (m.length : Int)) = false := h3
    simp at h3; omega
  conv => whnf
  refine ⟨fun k s h => ∃ i : Nat, i ≤ l.length ∧ (∀ j, j < i → l[j]? = m[j]?) ∧ k = l.length - i ∧ s = [(0, .sl 0 none), (1, .sl 16 none), (5, .lf (.int .i64 i))] ∧ h = [(0, some (.row .lent 1 intE1 l)), (16, some (.row .lent 1 intE1 m))],
    l.length, [(0, 0), (16, 16)], [(0, .sl 0 none), (1, .sl 16 none), (5, .lf (.int .i64 0))], [(0, some (.row .lent 1 intE1 l)), (16, some (.row .lent 1 intE1 m))], ⟨rfl, ⟨rfl, rfl, rfl, trivial⟩, ⟨rfl, rfl, trivial⟩⟩, ⟨0, by omega, fun j h => by omega, by omega, rfl, rfl⟩, ?_⟩
  rintro k _ _ ⟨i, g1, g2, rfl, rfl, rfl⟩
  conv => whnf
  intro h4
  conv => whnf
  refine br2 (fun h5 => ?_) (fun h5 => ?_)
  · have hi : i < l.length := by have := of_decide_eq_true h5; omega
    obtain ⟨y, hy⟩ : ∃ y, l[i]? = some y := ⟨_, List.getElem?_eq_getElem hi⟩
    have hy2 : nth l ((i : Nat) : Int).toNat = some y := by rw [nth_eq, Int.toNat_natCast]; exact hy
    obtain ⟨z, hz⟩ : ∃ z, m[i]? = some z := ⟨_, List.getElem?_eq_getElem (by omega)⟩
    have hz2 : nth m ((i : Nat) : Int).toNat = some z := by rw [nth_eq, Int.toNat_natCast]; exact hz
    conv => whnf
    refine ⟨Int.natCast_nonneg _, (show (i : Int) < (l.length : Int) by omega), ?_⟩
    conv => whnf
    refine ex2 y hy2 ?_
    conv => whnf
    refine ⟨Int.natCast_nonneg _, (show (i : Int) < (m.length : Int) by omega), ?_⟩
    conv => whnf
    refine ex2 z hz2 ?_
    conv => whnf
    refine br2 (fun h6 => ?_) (fun h6 => ?_)
    · replace h6 : (y != z) = true := h6
      replace h6 : y ≠ z := by simpa using h6
      conv => whnf
      refine ⟨⟨rfl, ?_⟩⟩
      show _ = [[D.lf (.bool (eqX l m))]]
      have : l ≠ m := by rintro rfl; rw [hy] at hz; cases hz; exact h6 rfl
      rw [eqX_no.2 this]
    · replace h6 : (y != z) = false := h6
      replace h6 : y = z := by simpa using h6
      conv => whnf
      refine ⟨l.length - (i + 1), [(0, 0), (16, 16)], [(0, .sl 0 none), (1, .sl 16 none), (5, .lf (.int .i64 ((i + 1 : Nat) : Int)))], [(0, some (.row .lent 1 intE1 l)), (16, some (.row .lent 1 intE1 m))], by omega, ⟨rfl, ⟨rfl, rfl, ?_, trivial⟩, ⟨rfl, rfl, trivial⟩⟩, i + 1, by omega, fun j hj => ?_, rfl, rfl, rfl⟩
      · show V.lf (.int .i64 (IntKind.i64.wrap ((i : Int) + 1))) = _
        replace h4 : l.length ≤ 9223372036854775807 := h4
        rw [w64 (by omega) (by omega)]; rfl
      · rcases Nat.lt_or_ge j i with h7 | h7
        · exact g2 j h7
        · obtain rfl : j = i := by omega
          rw [hy, hz, h6]
  · have hi : i = l.length := by have := of_decide_eq_false h5; omega
    conv => whnf
    refine ⟨⟨rfl, ?_⟩⟩
    show _ = [[D.lf (.bool (eqX l m))]]
    have : l = m := by
      apply List.ext_getElem?
      intro j
      rcases Nat.lt_or_ge j l.length with h | h
      · exact g2 j (by omega)
      · rw [List.getElem?_eq_none h, List.getElem?_eq_none (by omega)]
    rw [eqX_iff.2 this]
theorem eqIntS_ok : FnOk Tryz.prog 134 (cEqS 1 intE1) := fnOk_of fun x => fnX_at tab_ok (SOk.nil) mixed (fn := Tryz.f134) (code := body Tryz.f134) ⟨Tryz.func134, rfl, by kernel_rfl, by kernel_rfl, by kernel_rfl, by kernel_rfl⟩ (ev_eqIntS x)
def nodeB0 (n : NodeX) : Prop := (n.ps.length ≤ maxS ∧ ∀ y ∈ n.ps, rngB0 y) ∧ (n.keys.length ≤ maxS ∧ ∀ y ∈ n.keys, strB0 y) ∧ n.kids.length ≤ maxS
def nodeB (n : NodeX) : Prop := n.ps.length ≤ 1048576 ∧ n.keys.length ≤ 1048576 ∧ n.kids.length ≤ 1048576
theorem ev_szNode : ∀ x, evFnX tab [(117, (cSzS 2 RngX.ds rngB0 rngB)), (118, (cSzS 1 strE1 strB0 strB1)), (119, (cSzS 1 intE1 intB0 intB0))] (cSz NodeX.ds nodeB0 nodeB) Tryz.f65 (body Tryz.f65) x := by
  rintro ⟨x, left, h1, h2, hb1, hb2, hb3⟩
  conv => whnf
  refine ⟨⟨x.ps, left, h1, h2, hb1⟩, rfl, ?_⟩
  rintro _ _ ⟨rfl, k, rfl, k1, k2, k3⟩
  replace k2 : k ≤ left := k2
  conv => whnf
  refine br2 (fun h3 => ?_) (fun h3 => ?_)
  · conv => whnf
    exact ⟨⟨rfl, -1, rfl, by omega, (show (-1 : Int) ≤ left by omega), fun h => by omega⟩⟩
  have h3' := of_decide_eq_false h3
  have k4 : (x.ps.length : Int) + k ≤ left := (k3 (by omega)).1
  conv => whnf
  refine ⟨⟨x.keys, k, by omega, by omega, hb2⟩, rfl, ?_⟩
  rintro _ _ ⟨rfl, j, rfl, j1, j2, j3⟩
  replace j2 : j ≤ k := j2
  conv => whnf
  refine br2 (fun h4 => ?_) (fun h4 => ?_)
  · conv => whnf
    exact ⟨⟨rfl, -1, rfl, by omega, (show (-1 : Int) ≤ left by omega), fun h => by omega⟩⟩
  have h4' := of_decide_eq_false h4
  have j4 : (x.keys.length : Int) + j ≤ k := (j3 (by omega)).1
  conv => whnf
  refine ⟨⟨x.kids, j, by omega, by omega, hb3, fun _ _ => trivial⟩, rfl, ?_⟩
  rintro _ _ ⟨rfl, q, rfl, q1, q2, q3⟩
  replace q2 : q ≤ j := q2
  conv => whnf
  refine br2 (fun h5 => ?_) (fun h5 => ?_)
  · conv => whnf
    exact ⟨⟨rfl, -1, rfl, by omega, (show (-1 : Int) ≤ left by omega), fun h => by omega⟩⟩
  have h5' := of_decide_eq_false h5
  have q4 : (x.kids.length : Int) + q ≤ j := (q3 (by omega)).1
  conv => whnf
  exact ⟨⟨rfl, q, rfl, by omega, (show q ≤ left by omega), fun _ => (⟨by omega, by omega, by omega⟩ : nodeB x)⟩⟩
theorem szNode_ok : FnOk Tryz.prog 65 (cSz NodeX.ds nodeB0 nodeB) := fnOk_of fun x => fnX_at tab_ok (SOk.cons szPairS_ok (SOk.cons szStringS_ok (SOk.cons szIntS_ok SOk.nil))) mixed (fn := Tryz.f65) (code := body Tryz.f65) ⟨Tryz.func65, rfl, by kernel_rfl, by kernel_rfl, by kernel_rfl, by kernel_rfl⟩ (ev_szNode x)
theorem ev_szNodeS : ∀ x, evFnX tab [(65, (cSz NodeX.ds nodeB0 nodeB))] (cSzS 3 NodeX.ds nodeB0 nodeB) Tryz.f28 (body Tryz.f28) x := by
  rintro ⟨l, left, h1, h2, hb0, hb⟩
  replace hb0 : l.length ≤ 9223372036854775807 := hb0
  conv => whnf
  intro h3
  conv => whnf
  have e1 : IntKind.i64.wrap (left - (l.length : Int)) = left - l.length := w64 (by omega) (by omega)
  refine br2 (fun h4 => ?_) (fun h4 => ?_)
  · conv => whnf
    exact ⟨⟨rfl, -1, rfl, by omega, (show (-1 : Int) ≤ left by omega), fun h => by omega⟩⟩
  replace h4 : decide (IntKind.i64.wrap (left - (l.length : Int)) < 0) = false := h4
  rw [e1] at h4
  have h4' := of_decide_eq_false h4
  conv => whnf
  refine ⟨fun m s h => ∃ (i : Nat) (k : Int), i ≤ l.length ∧ 0 ≤ k ∧ k ≤ left - l.length ∧ (∀ j y, j < i → l[j]? = some y → nodeB y) ∧ m = l.length - i ∧ s = [(0, .sl 0 none), (1, .lf (.int .i64 k)), (5, .lf (.int .i64 i))] ∧ h = [(0, some (.row .lent 3 NodeX.ds l))],
    l.length, [(0, 0)], [(0, .sl 0 none), (1, .lf (.int .i64 (left - l.length))), (5, .lf (.int .i64 0))], [(0, some (.row .lent 3 NodeX.ds l))], ⟨rfl, ⟨rfl, ?_, rfl, trivial⟩, ⟨rfl, trivial⟩⟩, ⟨0, left - l.length, by omega, by omega, by omega, fun j y h => by omega, by omega, rfl, rfl⟩, ?_⟩
  · show V.lf (.int .i64 (IntKind.i64.wrap (left - (l.length : Int)))) = _
    rw [e1]
  rintro m _ _ ⟨i, k, g1, g2, g3, g4, rfl, rfl, rfl⟩
  conv => whnf
  intro _
  conv => whnf
  refine br2 (fun h5 => ?_) (fun h5 => ?_)
  · have hi : i < l.length := by have := of_decide_eq_true h5; omega
    obtain ⟨y, hy⟩ : ∃ y, l[i]? = some y := ⟨_, List.getElem?_eq_getElem hi⟩
    have hy2 : nth l ((i : Nat) : Int).toNat = some y := by rw [nth_eq, Int.toNat_natCast]; exact hy
    conv => whnf
    refine ⟨Int.natCast_nonneg _, (show (i : Int) < (l.length : Int) by omega), ?_⟩
    conv => whnf
    refine ex2 y hy2 ?_
    conv => whnf
    refine ⟨⟨y, k, g2, by omega, hb y (List.mem_of_getElem? hy)⟩, rfl, ?_⟩
    rintro _ _ ⟨rfl, k', rfl, k1, k2, k3⟩
    replace k2 : k' ≤ k := k2
    conv => whnf
    refine br2 (fun h6 => ?_) (fun h6 => ?_)
    · conv => whnf
      exact ⟨⟨rfl, -1, rfl, by omega, (show (-1 : Int) ≤ left by omega), fun h => by omega⟩⟩
    · have h6' := of_decide_eq_false h6
      conv => whnf
      refine ⟨l.length - (i + 1), [(0, 0)], [(0, .sl 0 none), (1, .lf (.int .i64 k')), (5, .lf (.int .i64 ((i + 1 : Nat) : Int)))], [(0, some (.row .lent 3 NodeX.ds l))], by omega, ⟨rfl, ⟨rfl, rfl, ?_, trivial⟩, ⟨rfl, trivial⟩⟩, i + 1, k', by omega, by omega, by omega, fun j z hj hz => ?_, rfl, rfl, rfl⟩
      · show V.lf (.int .i64 (IntKind.i64.wrap ((i : Int) + 1))) = _
        rw [w64 (by omega) (by omega)]; rfl
      · rcases Nat.lt_or_ge j i with h7 | h7
        · exact g4 j z h7 hz
        · obtain rfl : j = i := by omega
          rw [hy] at hz; cases hz; exact k3 (by omega)
  · have hi : i = l.length := by have := of_decide_eq_false h5; omega
    conv => whnf
    refine ⟨⟨rfl, k, rfl, by omega, (show k ≤ left by omega), fun _ => (⟨by omega, fun y hy => ?_⟩ : (l.length : Int) + k ≤ left ∧ ∀ y ∈ l, nodeB y)⟩⟩
    obtain ⟨j, hj⟩ := List.getElem?_of_mem hy
    exact g4 j y (by rw [hi]; exact (List.getElem?_eq_some_iff.1 hj).1) hj
theorem szNodeS_ok : FnOk Tryz.prog 28 (cSzS 3 NodeX.ds nodeB0 nodeB) := fnOk_of fun x => fnX_at tab_ok (SOk.cons szNode_ok SOk.nil) mixed (fn := Tryz.f28) (code := body Tryz.f28) ⟨Tryz.func28, rfl, by kernel_rfl, by kernel_rfl, by kernel_rfl, by kernel_rfl⟩ (ev_szNodeS x)
def nodesB0 (l : List NodeX) : Prop := l.length ≤ maxS ∧ ∀ y ∈ l, nodeB0 y
def nodesB (l : List NodeX) : Prop := l.length ≤ 1048576 ∧ ∀ y ∈ l, nodeB y
def treeDs (l : List NodeX) : List D := [.row 3 NodeX.ds l]
theorem ev_szTree : ∀ x, evFnX tab [(28, (cSzS 3 NodeX.ds nodeB0 nodeB))] (cSz treeDs nodesB0 nodesB) Tryz.f6 (body Tryz.f6) x := by
  rintro ⟨x, left, h1, h2, hb⟩
  conv => whnf
  refine ⟨⟨x, left, h1, h2, hb⟩, rfl, ?_⟩
  rintro _ _ ⟨rfl, k, rfl, k1, k2, k3⟩
  replace k2 : k ≤ left := k2
  conv => whnf
  refine br2 (fun h3 => ?_) (fun h3 => ?_)
  · conv => whnf
    exact ⟨⟨rfl, -1, rfl, by omega, (show (-1 : Int) ≤ left by omega), fun h => by omega⟩⟩
  have h3' := of_decide_eq_false h3
  obtain ⟨k4, k5⟩ := k3 (by omega)
  replace k4 : (x.length : Int) + k ≤ left := k4
  conv => whnf
  exact ⟨⟨rfl, k, rfl, k1, k2, fun _ => (⟨by omega, k5⟩ : nodesB x)⟩⟩
theorem szTree_ok : FnOk Tryz.prog 6 (cSz treeDs nodesB0 nodesB) := fnOk_of fun x => fnX_at tab_ok (SOk.cons szNodeS_ok SOk.nil) mixed (fn := Tryz.f6) (code := body Tryz.f6) ⟨Tryz.func6, rfl, by kernel_rfl, by kernel_rfl, by kernel_rfl, by kernel_rfl⟩ (ev_szTree x)
structure NodeY where
  x : NodeX
  h : nodeB x
theorem ev_toNode : ∀ x, evFnX tab [(124, (cCopyS 2 RngX.ds)), (125, (cCopyS 1 strE1)), (126, (cCopyS 1 intE1))] (pureC NodeY [(.rd, true)] [true] (fun x => [x.x.ds]) (fun x => [x.x.ds])) Tryz.f72 (body Tryz.f72) x := by
  rintro ⟨x, h1, h2, h3⟩
  conv => whnf
  refine ⟨⟨x.ps, h1⟩, rfl, ?_⟩
  rintro _ _ ⟨rfl, rfl⟩
  conv => whnf
  refine ⟨⟨x.keys, h2⟩, rfl, ?_⟩
  rintro _ _ ⟨rfl, rfl⟩
  conv => whnf
  refine ⟨⟨x.kids, h3⟩, rfl, ?_⟩
  rintro _ _ ⟨rfl, rfl⟩
  conv => whnf
  exact ⟨⟨rfl, rfl⟩⟩
theorem toNode_ok : FnOk Tryz.prog 72 (pureC NodeY [(.rd, true)] [true] (fun x => [x.x.ds]) (fun x => [x.x.ds])) := fnOk_of fun x => fnX_at tab_ok (SOk.cons toPairS_ok (SOk.cons toStringS_ok (SOk.cons toIntS_ok SOk.nil))) mixed (fn := Tryz.f72) (code := body Tryz.f72) ⟨Tryz.func72, rfl, by kernel_rfl, by kernel_rfl, by kernel_rfl, by kernel_rfl⟩ (ev_toNode x)
theorem ev_eqNode : ∀ x, evFnX tab [(132, (cEqS 2 RngX.ds)), (133, (cEqS 1 strE1)), (134, (cEqS 1 intE1))] (cEq NodeX.ds) Tryz.f78 (body Tryz.f78) x := by
  rintro ⟨⟨a, b, c⟩, ⟨d, e, f⟩⟩
  repeat' ((conv => whnf); first | refine br2 (fun h => ?_) (fun h => ?_) | (refine ⟨(a, d), rfl, ?_⟩; rintro _ _ ⟨rfl, rfl⟩) | (refine ⟨(b, e), rfl, ?_⟩; rintro _ _ ⟨rfl, rfl⟩) | (refine ⟨(c, f), rfl, ?_⟩; rintro _ _ ⟨rfl, rfl⟩))
  all_goals (conv => whnf)
  all_goals refine ⟨⟨rfl, ?_⟩⟩
  all_goals show _ = [[D.lf (.bool (eqX (⟨a, b, c⟩ : NodeX) ⟨d, e, f⟩))]]
  all_goals congr 4
  all_goals rw [eq_comm]
  all_goals simp_all [eqX_iff, eqX_no]
theorem eqNode_ok : FnOk Tryz.prog 78 (cEq NodeX.ds) := fnOk_of fun x => fnX_at tab_ok (SOk.cons eqPairS_ok (SOk.cons eqStringS_ok (SOk.cons eqIntS_ok SOk.nil))) mixed (fn := Tryz.f78) (code := body Tryz.f78) ⟨Tryz.func78, rfl, by kernel_rfl, by kernel_rfl, by kernel_rfl, by kernel_rfl⟩ (ev_eqNode x)
theorem ev_eqNodeS : ∀ x, evFnX tab [(78, (cEq NodeX.ds))] (cEqS 3 NodeX.ds) Tryz.f37 (body Tryz.f37) x := by
  rintro ⟨l, m⟩
  conv => whnf
  intro h1
  conv => whnf
  intro h2
  conv => whnf
  refine br2 (fun h3 => ?_) (fun h3 => ?_)
  · conv => whnf
    refine ⟨⟨rfl, ?_⟩⟩
    show _ = [[D.lf (.bool (eqX l m))]]
    have : l ≠ m := by rintro rfl; simp at h3
    rw [eqX_no.2 this]
  have hl : l.length = m.length := by
    replace h3 : ((l.length : Int) != (m.length : Int)) = false := h3
    simp at h3; omega
  conv => whnf
  refine ⟨fun k s h => ∃ i : Nat, i ≤ l.length ∧ (∀ j, j < i → l[j]? = m[j]?) ∧ k = l.length - i ∧ s = [(0, .sl 0 none), (1, .sl 16 none), (5, .lf (.int .i64 i))] ∧ h = [(0, some (.row .lent 3 NodeX.ds l)), (16, some (.row .lent 3 NodeX.ds m))],
    l.length, [(0, 0), (16, 16)], [(0, .sl 0 none), (1, .sl 16 none), (5, .lf (.int .i64 0))], [(0, some (.row .lent 3 NodeX.ds l)), (16, some (.row .lent 3 NodeX.ds m))], ⟨rfl, ⟨rfl, rfl, rfl, trivial⟩, ⟨rfl, rfl, trivial⟩⟩, ⟨0, by omega, fun j h => by omega, by omega, rfl, rfl⟩, ?_⟩
  rintro k _ _ ⟨i, g1, g2, rfl, rfl, rfl⟩
  conv => whnf
  intro h4
  conv => whnf
  refine br2 (fun h5 => ?_) (fun h5 => ?_)
  · have hi : i < l.length := by have := of_decide_eq_true h5; omega
    obtain ⟨y, hy⟩ : ∃ y, l[i]? = some y := ⟨_, List.getElem?_eq_getElem hi⟩
    have hy2 : nth l ((i : Nat) : Int).toNat = some y := by rw [nth_eq, Int.toNat_natCast]; exact hy
    obtain ⟨z, hz⟩ : ∃ z, m[i]? = some z := ⟨_, List.getElem?_eq_getElem (by omega)⟩
    have hz2 : nth m ((i : Nat) : Int).toNat = some z := by rw [nth_eq, Int.toNat_natCast]; exact hz
    conv => whnf
    refine ⟨Int.natCast_nonneg _, (show (i : Int) < (l.length : Int) by omega), ?_⟩
    conv => whnf
    refine ex2 y hy2 ?_
    conv => whnf
    refine ⟨Int.natCast_nonneg _, (show (i : Int) < (m.length : Int) by omega), ?_⟩
    conv => whnf
    refine ex2 z hz2 ?_
    conv => whnf
    refine ⟨(y, z), rfl, ?_⟩
    rintro _ _ ⟨rfl, rfl⟩
    conv => whnf
    refine br2 (fun h6 => ?_) (fun h6 => ?_)
    · replace h6 : (!eqX y z) = true := h6
      rw [Bool.not_eq_true', eqX_no] at h6
      conv => whnf
      refine ⟨⟨rfl, ?_⟩⟩
      show _ = [[D.lf (.bool (eqX l m))]]
      have : l ≠ m := by rintro rfl; rw [hy] at hz; cases hz; exact h6 rfl
      rw [eqX_no.2 this]
    · replace h6 : (!eqX y z) = false := h6
      rw [Bool.not_eq_false', eqX_iff] at h6
      conv => whnf
      refine ⟨l.length - (i + 1), [(0, 0), (16, 16)], [(0, .sl 0 none), (1, .sl 16 none), (5, .lf (.int .i64 ((i + 1 : Nat) : Int)))], [(0, some (.row .lent 3 NodeX.ds l)), (16, some (.row .lent 3 NodeX.ds m))], by omega, ⟨rfl, ⟨rfl, rfl, ?_, trivial⟩, ⟨rfl, rfl, trivial⟩⟩, i + 1, by omega, fun j hj => ?_, rfl, rfl, rfl⟩
      · show V.lf (.int .i64 (IntKind.i64.wrap ((i : Int) + 1))) = _
        replace h4 : l.length ≤ 9223372036854775807 := h4
        rw [w64 (by omega) (by omega)]; rfl
      · rcases Nat.lt_or_ge j i with h7 | h7
        · exact g2 j h7
        · obtain rfl : j = i := by omega
          rw [hy, hz, h6]
  · have hi : i = l.length := by have := of_decide_eq_false h5; omega
    conv => whnf
    refine ⟨⟨rfl, ?_⟩⟩
    show _ = [[D.lf (.bool (eqX l m))]]
    have : l = m := by
      apply List.ext_getElem?
      intro j
      rcases Nat.lt_or_ge j l.length with h | h
      · exact g2 j (by omega)
      · rw [List.getElem?_eq_none h, List.getElem?_eq_none (by omega)]
    rw [eqX_iff.2 this]
theorem eqNodeS_ok : FnOk Tryz.prog 37 (cEqS 3 NodeX.ds) := fnOk_of fun x => fnX_at tab_ok (SOk.cons eqNode_ok SOk.nil) mixed (fn := Tryz.f37) (code := body Tryz.f37) ⟨Tryz.func37, rfl, by kernel_rfl, by kernel_rfl, by kernel_rfl, by kernel_rfl⟩ (ev_eqNodeS x)
theorem ev_eqTree : ∀ x, evFnX tab [(37, (cEqS 3 NodeX.ds))] (cEq treeDs) Tryz.f12 (body Tryz.f12) x := by
  rintro ⟨a, b⟩
  conv => whnf
  refine ⟨(a, b), rfl, ?_⟩
  rintro _ _ ⟨rfl, rfl⟩
  conv => whnf
  refine br2 (fun h => ?_) (fun h => ?_)
  · replace h : (!eqX a b) = true := h
    rw [Bool.not_eq_true'] at h
    conv => whnf
    refine ⟨⟨rfl, ?_⟩⟩
    show [[D.lf (.bool false)]] = [[D.lf (.bool (eqX a b))]]
    rw [h]
  · replace h : (!eqX a b) = false := h
    rw [Bool.not_eq_false'] at h
    conv => whnf
    refine ⟨⟨rfl, ?_⟩⟩
    show [[D.lf (.bool true)]] = [[D.lf (.bool (eqX a b))]]
    rw [h]
theorem eqTree_ok : FnOk Tryz.prog 12 (cEq treeDs) := fnOk_of fun x => fnX_at tab_ok (SOk.cons eqNodeS_ok SOk.nil) mixed (fn := Tryz.f12) (code := body Tryz.f12) ⟨Tryz.func12, rfl, by kernel_rfl, by kernel_rfl, by kernel_rfl, by kernel_rfl⟩ (ev_eqTree x)
end Go.Vm
namespace Go.Vm
open Go.Proofs
set_option maxRecDepth 100000
set_option linter.unusedVariables false
set_option linter.unusedSimpArgs false

def pairAt (k : Int) : RngX := ⟨mkT k, mkT (k + 1)⟩
def markP (k : Int) (n : Nat) : List RngX := (List.range n).map fun i : Nat => pairAt (k + 2 * (i : Int))
theorem markP_len (k : Int) (n : Nat) : (markP k n).length = n := by simp [markP]
theorem markP_get {k : Int} {n i : Nat} (h : i < n) : (markP k n)[i]? = some (pairAt (k + 2 * (i : Int))) := by simp [markP, h]
theorem eq_markP {l : List RngX} {k : Int} {n : Nat} (h : l.length = n) (h2 : ∀ j, j < n → l[j]? = some (pairAt (k + 2 * (j : Int)))) : l = markP k n := by
  apply List.ext_getElem?
  intro j
  by_cases hj : j < n
  · rw [h2 j hj, markP_get hj]
  · rw [List.getElem?_eq_none (by omega), List.getElem?_eq_none (by rw [markP_len]; omega)]
theorem ev_markPairS : ∀ x, evFnX tab [(39, (pureC MkX [(.rd, false)] [false] (fun x => [[.lf (.int .i64 x.n)]]) (fun x => [[.lf (.string (mkT x.n))]])))] (cMarkS 2 RngX.ds markP 2) Tryz.f79 (body Tryz.f79) x := by
  rintro ⟨⟨l, k, h1, h2⟩, hl⟩
  replace hl : l.length ≤ 1048576 := hl
  conv => whnf
  refine ⟨fun m s h => ∃ (i : Nat) (l' : List RngX), i ≤ l.length ∧ l'.length = l.length ∧ (∀ j, j < i → l'[j]? = some (pairAt (k + 2 * (j : Int)))) ∧ m = l.length - i ∧ s = [(0, .sl 0 none), (1, .lf (.int .i64 (k + 2 * (i : Int)))), (5, .lf (.int .i64 i)), (1000000, .sl 0 none)] ∧ h = [(0, some (.row .own 2 RngX.ds l'))],
    l.length, [(0, 0)], [(0, .sl 0 none), (1, .lf (.int .i64 k)), (5, .lf (.int .i64 0)), (1000000, .sl 0 none)], [(0, some (.row .own 2 RngX.ds l))], ⟨rfl, ⟨rfl, rfl, rfl, rfl, trivial⟩, rfl, trivial⟩, ⟨0, l, by omega, rfl, fun j h => by omega, by omega, by simp, rfl⟩, ?_⟩
  rintro m _ _ ⟨i, l', g1, g2, g3, rfl, rfl, rfl⟩
  conv => whnf
  intro _
  conv => whnf
  refine br2 (fun h5 => ?_) (fun h5 => ?_)
  · have hi : i < l.length := by have := of_decide_eq_true h5; omega
    have hil : i < l'.length := by omega
    obtain ⟨y, hy⟩ := getL (l := l') (j := i) hil
    have hk0 : 0 ≤ k + 2 * (i : Int) ∧ k + 2 * (i : Int) ≤ 1125899920000000 := by omega
    have hk1 : k + 2 * ((i + 1 : Nat) : Int) = k + 2 * (i : Int) + 2 := by omega
    have g3' : ∀ z, z = pairAt (k + 2 * (i : Int)) → ∀ j, j < i + 1 → (l'.set i z)[j]? = some (pairAt (k + 2 * (j : Int))) := by
      rintro z rfl j hj
      rw [List.getElem?_set]
      by_cases e : i = j
      · subst e; rw [if_pos rfl, if_pos (by omega)]
      · rw [if_neg e]; exact g3 j (by omega)
    generalize hq : k + 2 * (i : Int) = q at *
    obtain ⟨hq0, hq1⟩ := hk0
    let q1 : Int := IntKind.i64.wrap (q + 1)
    have w1 : q1 = q + 1 := w64 (by omega) (by omega)
    have w2 : IntKind.i64.wrap (q1 + 1) = q + 2 := by rw [w1, w64 (by omega) (by omega)]; omega
    conv => whnf
    refine ⟨⟨q, by omega, by omega⟩, rfl, ?_⟩
    rintro _ _ ⟨rfl, rfl⟩
    conv => whnf
    refine ⟨Int.natCast_nonneg _, (show (i : Int) < (l'.length : Int) by omega), ?_⟩
    conv => whnf
    refine ex2 y (nthI hy) ?_
    conv => whnf
    refine ⟨⟨mkT q, y.hi⟩, rfl, ?_⟩
    conv => whnf
    refine ⟨⟨q1, by omega, by omega⟩, rfl, ?_⟩
    rintro _ _ ⟨rfl, rfl⟩
    conv => whnf
    refine ⟨Int.natCast_nonneg _, Int.ofNat_lt.2 (by simp only [List.length_set]; exact hil), ?_⟩
    conv => whnf
    refine ex2 _ (nth_setI hil) ?_
    conv => whnf
    refine ⟨⟨mkT q, mkT q1⟩, rfl, ?_⟩
    conv => whnf
    refine ⟨l.length - (i + 1), [(0, 0)], [(0, .sl 0 none), (1, .lf (.int .i64 (k + 2 * ((i + 1 : Nat) : Int)))), (5, .lf (.int .i64 ((i + 1 : Nat) : Int))), (1000000, .sl 0 none)], [(0, some (.row .own 2 RngX.ds (l'.set i (pairAt q))))], by omega, ⟨rfl, ⟨rfl, ?_, ?_, rfl, trivial⟩, ?_, trivial⟩, i + 1, _, by omega, by simp; omega, g3' _ rfl, rfl, rfl, rfl⟩
    · show V.lf (.int .i64 (IntKind.i64.wrap (q1 + 1))) = _
      rw [w2, hk1]
    · show V.lf (.int .i64 (IntKind.i64.wrap ((i : Int) + 1))) = _
      rw [w64 (by omega) (by omega)]; rfl
    · show some (Ob.row .own 2 RngX.ds ((l'.set i _).set i (⟨mkT q, mkT q1⟩ : RngX))) = _
      rw [w1, List.set_set]; rfl
  · have hi : i = l.length := by have := of_decide_eq_false h5; omega
    subst hi
    have e1 := eq_markP g2 g3
    conv => whnf
    refine ⟨⟨?_, rfl⟩⟩
    show [[D.row 2 RngX.ds l']] = _
    rw [e1]
theorem markPairS_ok : FnOk Tryz.prog 79 (cMarkS 2 RngX.ds markP 2) := fnOk_of fun x => fnX_at tab_ok (SOk.cons markText_ok SOk.nil) mixed (fn := Tryz.f79) (code := body Tryz.f79) ⟨Tryz.func79, rfl, by kernel_rfl, by kernel_rfl, by kernel_rfl, by kernel_rfl⟩ (ev_markPairS x)
end Go.Vm
namespace Go.Vm
open Go.Proofs
set_option maxRecDepth 100000
set_option linter.unusedVariables false
set_option linter.unusedSimpArgs false

structure NodesY where
  l : List NodeX
  hl : l.length ≤ 1048576
  h : ∀ n ∈ l, nodeB n
/-- A node that may not be there yet. -/
def nodeO : Option NodeX → List D
  | none => [.lf (.slice none 0 0), .lf (.slice none 0 0), .lf (.slice none 0 0)]
  | some n => n.ds
theorem nodeO_len (o : Option NodeX) : (nodeO o).length = 3 := by cases o <;> rfl
theorem ev_toNodeS : ∀ x, evFnX tab [(1000006, cGh), (72, (pureC NodeY [(.rd, true)] [true] (fun x => [x.x.ds]) (fun x => [x.x.ds])))] (pureC NodesY [(.rd, false)] [false] (fun x => [[.row 3 NodeX.ds x.l]]) (fun x => [[.row 3 NodeX.ds x.l]])) Tryz.f31 (body Tryz.f31) x := by
  rintro ⟨l, hl, hb⟩
  replace hl : l.length ≤ 1048576 := hl
  conv => whnf
  intro h1
  conv => whnf
  refine ⟨Int.natCast_nonneg _, rfl, ?_, ?_⟩
  · show (l.length : Int) ≤ (4294967296 : Nat); omega
  conv => whnf
  refine ⟨Option NodeX, nodeO, none, nodeO_len, rfl, ?_⟩
  conv => whnf
  refine ⟨fun m s h => ∃ (i : Nat) (l' : List (Option NodeX)), i ≤ l.length ∧ l'.length = l.length ∧ (∀ j y, j < i → l[j]? = some y → l'[j]? = some (some y)) ∧ m = l.length - i ∧ s = [(0, .sl 0 none), (3, .sl 112 none), (4, .lf (.int .i64 i))] ∧ h = [(112, some (.row .own 3 nodeO l')), (0, some (.row .lent 3 NodeX.ds l))],
    l.length, [(112, 112), (0, 0)], [(0, .sl 0 none), (3, .sl 112 none), (4, .lf (.int .i64 0))], [(112, some (.row .own 3 nodeO (List.replicate (l.length : Int).toNat none))), (0, some (.row .lent 3 NodeX.ds l))], ⟨rfl, ⟨rfl, rfl, rfl, trivial⟩, ⟨rfl, rfl, trivial⟩⟩,
    ⟨0, _, by omega, by rw [List.length_replicate, Int.toNat_natCast], fun j y h => by omega, by omega, rfl, rfl⟩, ?_⟩
  rintro m _ _ ⟨i, l', g1, g2, g3, rfl, rfl, rfl⟩
  conv => whnf
  intro _
  conv => whnf
  refine br2 (fun h5 => ?_) (fun h5 => ?_)
  · have hi : i < l.length := by have := of_decide_eq_true h5; omega
    obtain ⟨y, hy⟩ := getL hi
    obtain ⟨z, hz⟩ := getL (l := l') (j := i) (by omega)
    conv => whnf
    refine ⟨Int.natCast_nonneg _, ltI hy, ?_⟩
    conv => whnf
    refine ex2 _ (nthI hy) ?_
    conv => whnf
    refine ⟨⟨y, hb y (List.mem_of_getElem? hy)⟩, rfl, ?_⟩
    rintro _ _ ⟨rfl, rfl⟩
    conv => whnf
    have back : ∀ {s' : Sl} {h' : Hp}, Le [(112, 112), (0, 0)] [(0, .sl 0 none), (3, .sl 112 none), (4, .lf (.int .i64 ((i + 1 : Nat) : Int)))] [(112, some (.row .own 3 nodeO (l'.set i (some y)))), (0, some (.row .lent 3 NodeX.ds l))] s' h' →
        ∃ m' ρ s'' h'', m' < l.length - i ∧ Le ρ s'' h'' s' h' ∧ ∃ (i : Nat) (l' : List (Option NodeX)), i ≤ l.length ∧ l'.length = l.length ∧ (∀ j y, j < i → l[j]? = some y → l'[j]? = some (some y)) ∧ m' = l.length - i ∧ s'' = [(0, .sl 0 none), (3, .sl 112 none), (4, .lf (.int .i64 i))] ∧ h'' = [(112, some (.row .own 3 nodeO l')), (0, some (.row .lent 3 NodeX.ds l))] := fun hle =>
      ⟨l.length - (i + 1), _, _, _, by omega, hle, i + 1, l'.set i (some y), by omega, by simpa using g2, fun j w hj hw => by
        rw [List.getElem?_set]
        by_cases e : i = j
        · subst e; rw [if_pos rfl, if_pos (by omega)]; rw [hy] at hw; rw [Option.some.inj hw]
        · rw [if_neg e]; exact g3 j w (by omega) hw, rfl, rfl, rfl⟩
    rcases z with _ | z
    all_goals
      refine ⟨Int.natCast_nonneg _, ltI hz, ?_⟩
      conv => whnf
      refine ex2 _ (nthI hz) ?_
      conv => whnf
      refine ⟨some y, rfl, ?_⟩
      conv => whnf
      exact back ⟨rfl, ⟨rfl, rfl, incI hi (by omega), trivial⟩, by rfl, rfl, trivial⟩
  · have hi : i = l.length := by have := of_decide_eq_false h5; omega
    subst hi
    conv => whnf
    refine ⟨[.enc 112], ?_⟩
    conv => whnf
    refine ⟨NodeX, NodeX.ds, l, fun _ => rfl, ?_, ?_⟩
    · apply List.ext_getElem?
      intro j
      rw [List.getElem?_map, List.getElem?_map]
      rcases Nat.lt_or_ge j l.length with h | h
      · obtain ⟨y, hy⟩ := getL h
        rw [g3 j y h hy, hy]; rfl
      · rw [List.getElem?_eq_none (by omega), List.getElem?_eq_none (by omega)]; rfl
    conv => whnf
    exact ⟨⟨rfl, rfl⟩⟩
theorem toNodeS_ok : FnOk Tryz.prog 31 (pureC NodesY [(.rd, false)] [false] (fun x => [[.row 3 NodeX.ds x.l]]) (fun x => [[.row 3 NodeX.ds x.l]])) := fnOk_of fun x => fnX_at tab_ok (SOk.cons gh_ok (SOk.cons toNode_ok SOk.nil)) mixed (fn := Tryz.f31) (code := body Tryz.f31) ⟨Tryz.func31, rfl, by kernel_rfl, by kernel_rfl, by kernel_rfl, by kernel_rfl⟩ (ev_toNodeS x)
theorem ev_toTree : ∀ x, evFnX tab [(31, (pureC NodesY [(.rd, false)] [false] (fun x => [[.row 3 NodeX.ds x.l]]) (fun x => [[.row 3 NodeX.ds x.l]])))] (pureC NodesY [(.rd, true)] [true] (fun x => [treeDs x.l]) (fun x => [treeDs x.l])) Tryz.f8 (body Tryz.f8) x := by
  rintro ⟨l, hl, hb⟩
  conv => whnf
  refine ⟨⟨l, hl, hb⟩, rfl, ?_⟩
  rintro _ _ ⟨rfl, rfl⟩
  conv => whnf
  exact ⟨⟨rfl, rfl⟩⟩
theorem toTree_ok : FnOk Tryz.prog 8 (pureC NodesY [(.rd, true)] [true] (fun x => [treeDs x.l]) (fun x => [treeDs x.l])) := fnOk_of fun x => fnX_at tab_ok (SOk.cons toNodeS_ok SOk.nil) mixed (fn := Tryz.f8) (code := body Tryz.f8) ⟨Tryz.func8, rfl, by kernel_rfl, by kernel_rfl, by kernel_rfl, by kernel_rfl⟩ (ev_toTree x)
/-! Marks -/
def markS (k : Int) (n : Nat) : List ByteArray := (List.range n).map fun i : Nat => mkT (k + (i : Int))
theorem markS_len (k : Int) (n : Nat) : (markS k n).length = n := by simp [markS]
theorem markS_get {k : Int} {n i : Nat} (h : i < n) : (markS k n)[i]? = some (mkT (k + (i : Int))) := by simp [markS, h]
def markI (k : Int) (n : Nat) : List Int := (List.range n).map fun i : Nat => k + (i : Int)
theorem markI_len (k : Int) (n : Nat) : (markI k n).length = n := by simp [markI]
theorem markI_get {k : Int} {n i : Nat} (h : i < n) : (markI k n)[i]? = some (k + (i : Int)) := by simp [markI, h]
theorem eq_mark {α : Type} {l m : List α} {n : Nat} (h : l.length = n) (hm : m.length = n) (h2 : ∀ j, j < n → l[j]? = m[j]?) : l = m := by
  apply List.ext_getElem?
  intro j
  by_cases hj : j < n
  · exact h2 j hj
  · rw [List.getElem?_eq_none (by omega), List.getElem?_eq_none (by omega)]
theorem ev_markStringS : ∀ x, evFnX tab [(39, (pureC MkX [(.rd, false)] [false] (fun x => [[.lf (.int .i64 x.n)]]) (fun x => [[.lf (.string (mkT x.n))]])))] (cMarkS 1 strE1 markS 1) Tryz.f80 (body Tryz.f80) x := by
  rintro ⟨⟨l, k, h1, h2⟩, hl⟩
  replace hl : l.length ≤ 1048576 := hl
  conv => whnf
  let S0 : Nat → Sl := fun i => [(0, .sl 0 none), (1, .lf (.int .i64 (k + (i : Int)))), (5, .lf (.int .i64 i)), (1000000, .sl 0 none)]
  refine ⟨fun m s h => ∃ (i : Nat) (l' : List ByteArray), i ≤ l.length ∧ l'.length = l.length ∧ (∀ j, j < i → l'[j]? = (markS k l.length)[j]?) ∧ m = l.length - i ∧ s = S0 i ∧ h = [(0, some (.row .own 1 strE1 l'))],
    l.length, [(0, 0)], S0 0, [(0, some (.row .own 1 strE1 l))], ⟨rfl, ⟨rfl, ?_, rfl, rfl, trivial⟩, rfl, trivial⟩, ⟨0, l, by omega, rfl, fun j h => by omega, by omega, rfl, rfl⟩, ?_⟩
  · show V.lf (.int .i64 k) = V.lf (.int .i64 (k + ((0 : Nat) : Int)))
    rw [show k + ((0 : Nat) : Int) = k by omega]
  rintro m _ _ ⟨i, l', g1, g2, g3, rfl, rfl, rfl⟩
  conv => whnf
  intro _
  conv => whnf
  refine br2 (fun h5 => ?_) (fun h5 => ?_)
  · have hi : i < l.length := by have := of_decide_eq_true h5; omega
    obtain ⟨y, hy⟩ := getL (l := l') (j := i) (by omega)
    have w1 : IntKind.i64.wrap (k + (i : Int) + 1) = k + ((i + 1 : Nat) : Int) := by rw [w64 (by omega) (by omega)]; omega
    have fin : ∀ {s' : Sl} {h' : Hp}, Le [(0, 0)] (S0 (i + 1)) [(0, some (.row .own 1 strE1 (l'.set i (mkT (k + (i : Int))))))] s' h' →
        ∃ m' ρ s'' h'', m' < l.length - i ∧ Le ρ s'' h'' s' h' ∧ ∃ (i : Nat) (l' : List ByteArray), i ≤ l.length ∧ l'.length = l.length ∧ (∀ j, j < i → l'[j]? = (markS k l.length)[j]?) ∧ m' = l.length - i ∧ s'' = S0 i ∧ h'' = [(0, some (.row .own 1 strE1 l'))] := fun hle =>
      ⟨l.length - (i + 1), _, _, _, by omega, hle, i + 1, l'.set i (mkT (k + (i : Int))), by omega, by simpa using g2, fun j hj => by
        rw [List.getElem?_set]
        by_cases e : i = j
        · subst e; rw [if_pos rfl, if_pos (by omega), markS_get hi]
        · rw [if_neg e]; exact g3 j (by omega), rfl, rfl, rfl⟩
    conv => whnf
    first | (refine ⟨⟨k + (i : Int), by omega, by omega⟩, rfl, ?_⟩; rintro _ _ ⟨rfl, rfl⟩; conv => whnf) | skip
    refine ⟨Int.natCast_nonneg _, ltI hy, ?_⟩
    conv => whnf
    refine ex2 _ (nthI hy) ?_
    conv => whnf
    refine ⟨mkT (k + (i : Int)), rfl, ?_⟩
    conv => whnf
    refine fin ⟨rfl, ⟨rfl, ?_, incI hi (by omega), rfl, trivial⟩, by rfl, trivial⟩
    show V.lf (.int .i64 (IntKind.i64.wrap (k + (i : Int) + 1))) = _
    rw [w1]
  · have hi : i = l.length := by have := of_decide_eq_false h5; omega
    subst hi
    conv => whnf
    refine ⟨⟨?_, ?_⟩⟩
    · show [[D.row 1 strE1 l']] = [[D.row 1 strE1 (markS k l.length)]]
      rw [eq_mark g2 (markS_len _ _) g3]
    · show [[D.lf (.int .i64 (k + (l.length : Int)))]] = [[D.lf (.int .i64 (k + 1 * (l.length : Int)))]]
      rw [Int.one_mul]
theorem markStringS_ok : FnOk Tryz.prog 80 (cMarkS 1 strE1 markS 1) := fnOk_of fun x => fnX_at tab_ok (SOk.cons markText_ok SOk.nil) mixed (fn := Tryz.f80) (code := body Tryz.f80) ⟨Tryz.func80, rfl, by kernel_rfl, by kernel_rfl, by kernel_rfl, by kernel_rfl⟩ (ev_markStringS x)
theorem ev_markIntS : ∀ x, evFnX tab [] (cMarkS 1 intE1 markI 1) Tryz.f81 (body Tryz.f81) x := by
  rintro ⟨⟨l, k, h1, h2⟩, hl⟩
  replace hl : l.length ≤ 1048576 := hl
  conv => whnf
  let S0 : Nat → Sl := fun i => [(0, .sl 0 none), (1, .lf (.int .i64 (k + (i : Int)))), (5, .lf (.int .i64 i)), (1000000, .sl 0 none)]
  refine ⟨fun m s h => ∃ (i : Nat) (l' : List Int), i ≤ l.length ∧ l'.length = l.length ∧ (∀ j, j < i → l'[j]? = (markI k l.length)[j]?) ∧ m = l.length - i ∧ s = S0 i ∧ h = [(0, some (.row .own 1 intE1 l'))],
    l.length, [(0, 0)], S0 0, [(0, some (.row .own 1 intE1 l))], ⟨rfl, ⟨rfl, ?_, rfl, rfl, trivial⟩, rfl, trivial⟩, ⟨0, l, by omega, rfl, fun j h => by omega, by omega, rfl, rfl⟩, ?_⟩
  · show V.lf (.int .i64 k) = V.lf (.int .i64 (k + ((0 : Nat) : Int)))
    rw [show k + ((0 : Nat) : Int) = k by omega]
  rintro m _ _ ⟨i, l', g1, g2, g3, rfl, rfl, rfl⟩
  conv => whnf
  intro _
  conv => whnf
  refine br2 (fun h5 => ?_) (fun h5 => ?_)
  · have hi : i < l.length := by have := of_decide_eq_true h5; omega
    obtain ⟨y, hy⟩ := getL (l := l') (j := i) (by omega)
    have w1 : IntKind.i64.wrap (k + (i : Int) + 1) = k + ((i + 1 : Nat) : Int) := by rw [w64 (by omega) (by omega)]; omega
    have fin : ∀ {s' : Sl} {h' : Hp}, Le [(0, 0)] (S0 (i + 1)) [(0, some (.row .own 1 intE1 (l'.set i (k + (i : Int)))))] s' h' →
        ∃ m' ρ s'' h'', m' < l.length - i ∧ Le ρ s'' h'' s' h' ∧ ∃ (i : Nat) (l' : List Int), i ≤ l.length ∧ l'.length = l.length ∧ (∀ j, j < i → l'[j]? = (markI k l.length)[j]?) ∧ m' = l.length - i ∧ s'' = S0 i ∧ h'' = [(0, some (.row .own 1 intE1 l'))] := fun hle =>
      ⟨l.length - (i + 1), _, _, _, by omega, hle, i + 1, l'.set i (k + (i : Int)), by omega, by simpa using g2, fun j hj => by
        rw [List.getElem?_set]
        by_cases e : i = j
        · subst e; rw [if_pos rfl, if_pos (by omega), markI_get hi]
        · rw [if_neg e]; exact g3 j (by omega), rfl, rfl, rfl⟩
    conv => whnf
    first | (refine ⟨⟨k + (i : Int), by omega, by omega⟩, rfl, ?_⟩; rintro _ _ ⟨rfl, rfl⟩; conv => whnf) | skip
    refine ⟨Int.natCast_nonneg _, ltI hy, ?_⟩
    conv => whnf
    refine ex2 _ (nthI hy) ?_
    conv => whnf
    refine ⟨k + (i : Int), rfl, ?_⟩
    conv => whnf
    refine fin ⟨rfl, ⟨rfl, ?_, incI hi (by omega), rfl, trivial⟩, by rfl, trivial⟩
    show V.lf (.int .i64 (IntKind.i64.wrap (k + (i : Int) + 1))) = _
    rw [w1]
  · have hi : i = l.length := by have := of_decide_eq_false h5; omega
    subst hi
    conv => whnf
    refine ⟨⟨?_, ?_⟩⟩
    · show [[D.row 1 intE1 l']] = [[D.row 1 intE1 (markI k l.length)]]
      rw [eq_mark g2 (markI_len _ _) g3]
    · show [[D.lf (.int .i64 (k + (l.length : Int)))]] = [[D.lf (.int .i64 (k + 1 * (l.length : Int)))]]
      rw [Int.one_mul]
theorem markIntS_ok : FnOk Tryz.prog 81 (cMarkS 1 intE1 markI 1) := fnOk_of fun x => fnX_at tab_ok (SOk.nil) mixed (fn := Tryz.f81) (code := body Tryz.f81) ⟨Tryz.func81, rfl, by kernel_rfl, by kernel_rfl, by kernel_rfl, by kernel_rfl⟩ (ev_markIntS x)
end Go.Vm
namespace Go.Vm
open Go.Proofs
set_option maxRecDepth 100000
set_option linter.unusedVariables false
set_option linter.unusedSimpArgs false

def nodeW (n : NodeX) : Int := 2 * (n.ps.length : Int) + n.keys.length + n.kids.length
def markNode (k : Int) (n : NodeX) : NodeX := ⟨markP k n.ps.length, markS (k + 2 * (n.ps.length : Int)) n.keys.length, markI (k + 2 * (n.ps.length : Int) + n.keys.length) n.kids.length⟩
def nodesW : List NodeX → Int
  | [] => 0
  | n :: l => nodeW n + nodesW l
def markNs (k : Int) : List NodeX → List NodeX
  | [] => []
  | n :: l => markNode k n :: markNs (k + nodeW n) l
theorem nodeW_pos (n : NodeX) : 0 ≤ nodeW n := by unfold nodeW; omega
theorem nodeW_le {n : NodeX} (h : nodeB n) : nodeW n ≤ 4194304 := by obtain ⟨a, b, c⟩ := h; unfold nodeW; omega
theorem nodesW_pos (l : List NodeX) : 0 ≤ nodesW l := by
  induction l with
  | nil => exact Int.le_refl 0
  | cons n l ih => have := nodeW_pos n; simp only [nodesW]; omega
theorem nodesW_le {l : List NodeX} (h : ∀ n ∈ l, nodeB n) : nodesW l ≤ 4194304 * l.length := by
  induction l with
  | nil => simp [nodesW]
  | cons n l ih =>
    have a := nodeW_le (h n (by simp))
    have b := ih fun m hm => h m (by simp [hm])
    simp only [nodesW, List.length_cons]; omega
theorem nodesW_take {l : List NodeX} {i : Nat} {n : NodeX} (h : l[i]? = some n) : nodesW (l.take (i + 1)) = nodesW (l.take i) + nodeW n := by
  induction l generalizing i with
  | nil => simp at h
  | cons m l ih =>
    cases i with
    | zero => obtain rfl : m = n := by simpa using h
              simp [nodesW]
    | succ i => have := ih (i := i) (by simpa using h); simp only [List.take_succ_cons, nodesW] at *; omega
theorem nodesW_take_le (l : List NodeX) (i : Nat) : nodesW (l.take i) ≤ nodesW l := by
  induction l generalizing i with
  | nil => simp
  | cons m l ih =>
    cases i with
    | zero => exact nodesW_pos _
    | succ i => have := ih i; simp only [List.take_succ_cons, nodesW] at *; omega
theorem markNs_len (k : Int) (l : List NodeX) : (markNs k l).length = l.length := by
  induction l generalizing k with
  | nil => rfl
  | cons n l ih => simp [markNs, ih]
theorem markNs_get {k : Int} {l : List NodeX} {i : Nat} {n : NodeX} (h : l[i]? = some n) : (markNs k l)[i]? = some (markNode (k + nodesW (l.take i)) n) := by
  induction l generalizing i k with
  | nil => simp at h
  | cons m l ih =>
    cases i with
    | zero => obtain rfl : m = n := by simpa using h
              simp [markNs, nodesW]
    | succ i => rw [markNs, List.getElem?_cons_succ, ih (by simpa using h), List.take_succ_cons, nodesW, Int.add_assoc]
theorem markNs_set {k : Int} {l l' : List NodeX} {i : Nat} {n : NodeX} (hn : l[i]? = some n) (hl : l'.length = l.length) (h1 : ∀ j, j < i → l'[j]? = (markNs k l)[j]?) :
    ∀ j, j < i + 1 → (l'.set i (markNode (k + nodesW (l.take i)) n))[j]? = (markNs k l)[j]? := by
  intro j hj
  have hi : i < l.length := by rcases Nat.lt_or_ge i l.length with h | h; exact h; rw [List.getElem?_eq_none h] at hn; cases hn
  rw [List.getElem?_set]
  by_cases e : i = j
  · subst e; rw [if_pos rfl, if_pos (by omega), markNs_get hn]
  · rw [if_neg e]; exact h1 j (by omega)
theorem markNs_all {k : Int} {l l' : List NodeX} (hl : l'.length = l.length) (h : ∀ j, j < l.length → l'[j]? = (markNs k l)[j]?) : l' = markNs k l := eq_mark hl (markNs_len k l) h
structure MarkNX where
  l : List NodeX
  k : Int
  h1 : 0 ≤ k
  h2 : k + nodesW l ≤ 1125899906842624
  hl : l.length ≤ 1048576
  hb : ∀ n ∈ l, nodeB n
def cMarkN (d : Bool) : Con := { X := MarkNX, params := [(.mut, d), (.rd, false)], res := [false], resOwn := true, ins := fun x => [[.row 3 NodeX.ds x.l], [.lf (.int .i64 x.k)]], post := fun x outs r => outs = [[.row 3 NodeX.ds (markNs x.k x.l)]] ∧ r = [[.lf (.int .i64 (x.k + nodesW x.l))]] }
theorem ev_markNodeS : ∀ x, evFnX tab [(1000004, cGh), (1000003, cGh), (79, (cMarkS 2 RngX.ds markP 2)), (80, (cMarkS 1 strE1 markS 1)), (81, (cMarkS 1 intE1 markI 1))] (cMarkN false) Tryz.f38 (body Tryz.f38) x := by
  rintro ⟨l, k, h1, h2, hl, hb⟩
  replace hl : l.length ≤ 1048576 := hl
  replace hb : ∀ n ∈ l, nodeB n := hb
  conv => whnf
  let S0 : Nat → Sl := fun i => [(0, .sl 0 none), (1, .lf (.int .i64 (k + nodesW (l.take i)))), (5, .lf (.int .i64 i)), (1000000, .sl 0 none)]
  refine ⟨fun m s h => ∃ (i : Nat) (l' : List NodeX), i ≤ l.length ∧ l'.length = l.length ∧ (∀ j, j < i → l'[j]? = (markNs k l)[j]?) ∧ (∀ j, i ≤ j → l'[j]? = l[j]?) ∧ m = l.length - i ∧ s = S0 i ∧ h = [(0, some (.row .own 3 NodeX.ds l'))],
    l.length, [(0, 0)], S0 0, [(0, some (.row .own 3 NodeX.ds l))], ⟨rfl, ⟨rfl, ?_, rfl, rfl, trivial⟩, rfl, trivial⟩, ⟨0, l, by omega, rfl, fun j h => by omega, fun j _ => rfl, by omega, rfl, rfl⟩, ?_⟩
  · show V.lf (.int .i64 k) = V.lf (.int .i64 (k + 0))
    rw [Int.add_zero]
  rintro m _ _ ⟨i, l', g1, g2, g3, g4, rfl, rfl, rfl⟩
  conv => whnf
  intro _
  conv => whnf
  refine br2 (fun h5 => ?_) (fun h5 => ?_)
  · have hi : i < l.length := by have := of_decide_eq_true h5; omega
    obtain ⟨y, hy⟩ := getL hi
    have hy' : l'[i]? = some y := (g4 i (Nat.le_refl _)).trans hy
    obtain ⟨ps, keys, kids⟩ := y
    obtain ⟨b1, b2, b3⟩ : ps.length ≤ 1048576 ∧ keys.length ≤ 1048576 ∧ kids.length ≤ 1048576 := hb _ (List.mem_of_getElem? hy)
    have t1 := nodesW_take hy
    have t2 := nodesW_take_le l (i + 1)
    have t3 := nodesW_pos (l.take i)
    have s1 := markNs_set (k := k) hy g2 g3
    replace t1 : nodesW (l.take (i + 1)) = nodesW (l.take i) + (2 * (ps.length : Int) + keys.length + kids.length) := t1
    conv => whnf
    refine ⟨[.foc 0 i 1000], ?_⟩
    conv => whnf
    refine ex2 _ (by rw [nth_eq]; exact hy') ?_
    conv => whnf
    refine ⟨Int.natCast_nonneg _, ltI hy', ?_⟩
    conv => whnf
    refine ⟨Int.toNat_natCast i, ?_⟩
    conv => whnf
    refine ⟨⟨⟨ps, k + nodesW (l.take i), by omega, by omega⟩, b1⟩, rfl, ?_⟩
    rintro _ _ ⟨rfl, rfl⟩
    conv => whnf
    refine ⟨Int.natCast_nonneg _, ltI hy', ?_⟩
    conv => whnf
    refine ⟨Int.toNat_natCast i, ?_⟩
    conv => whnf
    refine ⟨⟨⟨keys, k + nodesW (l.take i) + 2 * (ps.length : Int), by omega, by omega⟩, b2⟩, rfl, ?_⟩
    rintro _ _ ⟨rfl, rfl⟩
    conv => whnf
    refine ⟨Int.natCast_nonneg _, ltI hy', ?_⟩
    conv => whnf
    refine ⟨Int.toNat_natCast i, ?_⟩
    conv => whnf
    refine ⟨⟨⟨kids, k + nodesW (l.take i) + 2 * (ps.length : Int) + 1 * (keys.length : Int), by omega, by omega⟩, b3⟩, rfl, ?_⟩
    rintro _ _ ⟨rfl, rfl⟩
    conv => whnf
    refine ⟨[.unf 0], ?_⟩
    conv => whnf
    refine ⟨markNode (k + nodesW (l.take i)) ⟨ps, keys, kids⟩, ?_, ?_⟩
    · show [D.row 2 RngX.ds (markP (k + nodesW (l.take i)) ps.length), D.row 1 strE1 (markS (k + nodesW (l.take i) + 2 * (ps.length : Int)) keys.length), D.row 1 intE1 (markI (k + nodesW (l.take i) + 2 * (ps.length : Int) + (keys.length : Int)) kids.length)] = [D.row 2 RngX.ds (markP (k + nodesW (l.take i)) ps.length), D.row 1 strE1 (markS (k + nodesW (l.take i) + 2 * (ps.length : Int)) keys.length), D.row 1 intE1 (markI (k + nodesW (l.take i) + 2 * (ps.length : Int) + 1 * (keys.length : Int)) kids.length)]
      rw [Int.one_mul]
    conv => whnf
    refine ⟨l.length - (i + 1), [(0, 0)], S0 (i + 1), [(0, some (.row .own 3 NodeX.ds (l'.set i (markNode (k + nodesW (l.take i)) ⟨ps, keys, kids⟩))))], by omega, ⟨rfl, ⟨rfl, ?_, incI hi (by omega), rfl, trivial⟩, by rfl, trivial⟩, i + 1, _, by omega, by simpa using g2, s1, fun j hj => ?_, rfl, rfl, rfl⟩
    · show V.lf (.int .i64 (k + nodesW (l.take i) + 2 * (ps.length : Int) + 1 * (keys.length : Int) + 1 * (kids.length : Int))) = V.lf (.int .i64 (k + nodesW (l.take (i + 1))))
      rw [t1, show k + nodesW (l.take i) + 2 * (ps.length : Int) + 1 * (keys.length : Int) + 1 * (kids.length : Int) = k + (nodesW (l.take i) + (2 * (ps.length : Int) + keys.length + kids.length)) by omega]
    · rw [List.getElem?_set, if_neg (by omega)]; exact g4 j (by omega)
  · have hi : i = l.length := by have := of_decide_eq_false h5; omega
    subst hi
    conv => whnf
    refine ⟨⟨?_, ?_⟩⟩
    · show [[D.row 3 NodeX.ds l']] = [[D.row 3 NodeX.ds (markNs k l)]]
      rw [markNs_all g2 g3]
    · show [[D.lf (.int .i64 (k + nodesW (l.take l.length)))]] = [[D.lf (.int .i64 (k + nodesW l))]]
      rw [List.take_length]
theorem markNodeS_ok : FnOk Tryz.prog 38 (cMarkN false) := fnOk_of fun x => fnX_at tab_ok (SOk.cons gh_ok (SOk.cons gh_ok (SOk.cons markPairS_ok (SOk.cons markStringS_ok (SOk.cons markIntS_ok SOk.nil))))) mixed (fn := Tryz.f38) (code := body Tryz.f38) ⟨Tryz.func38, rfl, by kernel_rfl, by kernel_rfl, by kernel_rfl, by kernel_rfl⟩ (ev_markNodeS x)
theorem ev_markTree : ∀ x, evFnX tab [(38, (cMarkN false))] (cMarkN true) Tryz.f13 (body Tryz.f13) x := by
  rintro ⟨l, k, h1, h2, hl, hb⟩
  conv => whnf
  refine ⟨⟨l, k, h1, h2, hl, hb⟩, rfl, ?_⟩
  rintro _ _ ⟨rfl, rfl⟩
  conv => whnf
  exact ⟨⟨rfl, rfl⟩⟩
theorem markTree_ok : FnOk Tryz.prog 13 (cMarkN true) := fnOk_of fun x => fnX_at tab_ok (SOk.cons markNodeS_ok SOk.nil) mixed (fn := Tryz.f13) (code := body Tryz.f13) ⟨Tryz.func13, rfl, by kernel_rfl, by kernel_rfl, by kernel_rfl, by kernel_rfl⟩ (ev_markTree x)
end Go.Vm
namespace Go.Vm
open Go.Proofs
set_option maxRecDepth 100000
set_option linter.unusedVariables false
set_option linter.unusedSimpArgs false
set_option maxHeartbeats 4000000

end Go.Vm
namespace Go.Vm
open Go.Proofs
set_option maxRecDepth 100000
set_option linter.unusedVariables false
set_option linter.unusedSimpArgs false

end Go.Vm
namespace Go.Vm
open Go.Proofs
set_option maxRecDepth 100000
set_option linter.unusedVariables false
set_option linter.unusedSimpArgs false
set_option maxHeartbeats 4000000

theorem sub_len {α : Type} : ∀ (xs ys : List α), xs.Pairwise (· ≠ ·) → (∀ x ∈ xs, x ∈ ys) → xs.length ≤ ys.length
  | [], _, _, _ => Nat.zero_le _
  | x :: xs, ys, hp, hs => by
    obtain ⟨a, b, rfl⟩ := List.append_of_mem (hs x (by simp))
    have h3 := sub_len xs (a ++ b) (List.pairwise_cons.1 hp).2 fun y hy => by
      have h1 := hs y (by simp [hy])
      have h2 := (List.pairwise_cons.1 hp).1 y hy
      simp only [List.mem_append, List.mem_cons] at h1 ⊢
      rcases h1 with h | h | h
      · exact .inl h
      · exact absurd h.symm h2
      · exact .inr h
    simp only [List.length_append, List.length_cons] at h3 ⊢
    omega
theorem fm_len {α β : Type} {f : α → List β} {b : Nat} (h : ∀ n, (f n).length ≤ b) : ∀ l : List α, (l.flatMap f).length ≤ b * l.length
  | [] => by simp
  | x :: l => by
    have := fm_len h l
    have := h x
    simp only [List.flatMap_cons, List.length_append, List.length_cons, Nat.mul_add]
    omega
theorem strLt_irr (a : ByteArray) : strLt a a = false := by
  cases e : strLt a a with
  | false => rfl
  | true => exact absurd e (by simp [strLt_irrefl])
theorem PrepsT.small {N : List NodeX} {P : List PrpX} (h : PrepsT N P) : P.length ≤ 200 ∧ ∀ p ∈ P, p.2.length ≤ 3200 := by
  obtain ⟨l, ha, hP⟩ := h
  have hl : (undL l).length ≤ 200 := Nat.le_trans (undL_len l) ha.okk.len
  have hm : ((undL l).map UnX.u).length ≤ 200 := by rw [List.length_map]; exact hl
  constructor
  · have := sub_len (P.map (·.1)) (((undL l).map UnX.u).map (·.1)) ?_ ?_
    · rw [List.length_map, List.length_map] at this; omega
    · rw [List.pairwise_map]
      refine hP.srt.imp fun {a b} h e => ?_
      rw [e] at h
      rw [strLt_irr] at h; cases h
    · intro x hx
      obtain ⟨p, hp, rfl⟩ := List.mem_map.1 hx
      obtain ⟨u, hu, e⟩ := (hP.mem p.1).1 ⟨p, hp, rfl⟩
      exact List.mem_map.2 ⟨u, hu, e⟩
  · intro p hp
    rw [hP.recs p hp]
    unfold recsOf
    have := fm_len (f := fun n => (((undL l).map UnX.u).filter fun u => decide (u.1 = p.1 ∧ u.2.1 = n)).map fun u => u.2.2) (b := 200) (fun n => by
      rw [List.length_map]
      exact Nat.le_trans (List.length_filter_le _ _) hm) (List.range 16)
    rw [List.length_range] at this
    exact this
end Go.Vm
namespace Go.Vm
open Go.Proofs
set_option maxRecDepth 100000
set_option linter.unusedVariables false
set_option linter.unusedSimpArgs false
set_option maxHeartbeats 8000000

/-- The edit that a record asks for. -/
def datR (r : RecX) : Option EdX := if r.kind = 1 then some ⟨r.key, r.val, false⟩ else if r.kind = 2 then some ⟨r.key, ByteArray.empty, true⟩ else none
def cDat : Con := relC RecX [(.rd, true)] [true, false] (fun r => [r.ds]) (fun r q => ∃ (e : EdX) (ok : Bool), q = [e.ds, [.lf (.bool ok)]] ∧ (ok = true → datR r = some e) ∧ (ok = false → datR r = none))
theorem ev_iDataOf : ∀ x, evFnX tab [] cDat Tryz.f34 (body Tryz.f34) x := by
  rintro ⟨kind, key, val, lo, hi⟩
  conv => whnf
  refine br2 (fun h1 => ?_) (fun h1 => ?_)
  · obtain rfl : kind = 1 := by
      replace h1 : (kind == 1) = true := h1
      simpa using h1
    conv => whnf
    exact ⟨⟨rfl, ⟨key, val, false⟩, true, rfl, fun _ => rfl, fun e => (by cases e)⟩⟩
  have n1 : kind ≠ 1 := by
    replace h1 : (kind == 1) = false := h1
    simpa using h1
  conv => whnf
  refine br2 (fun h2 => ?_) (fun h2 => ?_)
  · obtain rfl : kind = 2 := by
      replace h2 : (kind == 2) = true := h2
      simpa using h2
    conv => whnf
    exact ⟨⟨rfl, ⟨key, ByteArray.empty, true⟩, true, rfl, fun _ => rfl, fun e => (by cases e)⟩⟩
  have n2 : kind ≠ 2 := by
    replace h2 : (kind == 2) = false := h2
    simpa using h2
  conv => whnf
  refine ⟨⟨rfl, ⟨ByteArray.empty, ByteArray.empty, false⟩, false, rfl, fun e => (by cases e), fun _ => ?_⟩⟩
  show datR ⟨kind, key, val, lo, hi⟩ = none
  unfold datR
  rw [if_neg n1, if_neg n2]
theorem iDataOf_ok : FnOk Tryz.prog 34 cDat := fnOk_of fun x => fnX_at tab_ok (SOk.nil) mixed (fn := Tryz.f34) (code := body Tryz.f34) ⟨Tryz.func34, rfl, by kernel_rfl, by kernel_rfl, by kernel_rfl, by kernel_rfl⟩ (ev_iDataOf x)
def cPreps0M : Con := { cPreps0 with resOwn := false }
theorem ev_iPreps0M : ∀ x, evFnX tab [(1000002, cGh), (1000004, cGh), (1000011, cGh), (1000012, cGh), (35, cUnders), (74, cSortU)] cPreps0M Tryz.f33 (body Tryz.f33) x := by
  rintro ⟨l, hP⟩
  have hl : l.length ≤ 200 := hP.len
  have hU := undL_len l
  obtain ⟨vs, hv⟩ := undL_vx l
  have hvl : vs.length = (undL l).length := by rw [← hv, List.length_map]
  conv => whnf
  refine ⟨⟨l, hP⟩, rfl, ?_⟩
  rintro _ _ ⟨rfl, rfl⟩
  conv => whnf
  refine ⟨[.enc 160], ?_⟩
  conv => whnf
  refine ⟨VX, VX.ds, vs, fun _ => rfl, ?_, ?_⟩
  · show vs.map VX.ds = (undL l).map UnX.ds
    rw [← hv, List.map_map]; rfl
  conv => whnf
  refine ⟨⟨vs, by omega⟩, rfl, ?_⟩
  rintro _ _ ⟨rfl, Z, rfl, z1, z2⟩
  replace z2 : Z.Perm vs := z2
  have zl := z2.length_eq
  have fin := sorted_preps hP.srt hv z1 z2
  conv => whnf
  refine ⟨[.row 208], ?_⟩
  conv => whnf
  refine ⟨PrpX, encP, [], fun _ => rfl, rfl, ?_⟩
  conv => whnf
  intro _
  conv => whnf
  let S0 : Nat → Sl := fun i => [(16, .lf (.int .i64 i)), (15, .lf (.int .i64 Z.length)), (14, .sl 160 none), (4, .sl 208 none)]
  let H0 : List PrpX → Hp := fun q => [(160, some (.row .own 10 VX.ds Z)), (208, some (.row .own 4 encP q))]
  refine ⟨fun m s h => ∃ i : Nat, i ≤ Z.length ∧ m = Z.length - i ∧ s = S0 i ∧ h = H0 (groups ((Z.take i).map VX.u)), Z.length, [(160, 160), (208, 208)], S0 0, H0 [], ⟨rfl, ⟨rfl, rfl, rfl, rfl, trivial⟩, rfl, rfl, trivial⟩, ⟨0, by omega, by omega, rfl, rfl⟩, ?_⟩
  rintro m _ _ ⟨i, g1, rfl, rfl, rfl⟩
  have hgl := groups_len ((Z.take i).map VX.u)
  have hgr := groups_recs ((Z.take i).map VX.u)
  rw [List.length_map, List.length_take] at hgl hgr
  conv => whnf
  refine br2 (fun h5 => ?_) (fun h5 => ?_)
  · have hi : i < Z.length := by have := of_decide_eq_true h5; omega
    obtain ⟨⟨⟨k, t, n, r⟩, hg⟩, hy⟩ := getL hi
    have hG := groups_snoc hy
    have hinc := incI hi (show Z.length ≤ 9223372036854775807 by omega)
    generalize hg0 : groups ((Z.take i).map VX.u) = G at *
    have back : ∀ {s' : Sl} {h' : Hp} (ρ : List (Nat × Nat)), Le ρ (S0 (i + 1)) (H0 (groups ((Z.take (i + 1)).map VX.u))) s' h' → ∃ m' ρ s'' h'', m' < Z.length - i ∧ Le ρ s'' h'' s' h' ∧ ∃ i, i ≤ Z.length ∧ m' = Z.length - i ∧ s'' = S0 i ∧ h'' = H0 (groups ((Z.take i).map VX.u)) := fun ρ hle =>
      ⟨Z.length - (i + 1), ρ, _, _, by omega, hle, i + 1, hi, rfl, rfl, rfl⟩
    rw [hG] at back
    conv => whnf
    refine ⟨Int.natCast_nonneg _, ltI hy, ?_⟩
    conv => whnf
    refine ex2 _ (nthI hy) ?_
    conv => whnf
    intro _
    conv => whnf
    refine br2 (fun h6 => ?_) (fun h6 => ?_)
    · replace h6 : ((G.length : Int) == 0) = true := h6
      have hG0 : G = [] := by simpa using h6
      subst hG0
      conv => whnf
      refine ⟨5, RecX, RecX.ds, fun _ => rfl, ?_⟩
      conv => whnf
      refine ⟨[(t, [])], rfl, (show 0 + 1 ≤ 4294967296 by decide), ?_⟩
      conv => whnf
      intro _
      conv => whnf
      have ej : IntKind.i64.wrap (((([] : List PrpX) ++ [(t, [])]).length : Int) - 1) = ((0 : Nat) : Int) := rfl
      have jq : (IntKind.i64.wrap (((([] : List PrpX) ++ [(t, [])]).length : Int) - 1)).toNat = 0 := rfl
      have hj : (([] : List PrpX) ++ [(t, [])])[0]? = some (t, []) := rfl
      have bd : ([] : List RecX).length + 1 ≤ 4294967296 := by decide
      have hA : addG [] (VX.u ⟨⟨k, t, n, r⟩, hg⟩) = [(t, [r])] := rfl
      refine ⟨(ixE ej hj).1, (ixE ej hj).2, ?_⟩
      conv => whnf
      refine ⟨[.foc 640 0 1000], ?_⟩
      conv => whnf
      refine ⟨jq, ?_⟩
      conv => whnf
      repeat (refine rc_i (by (conv => whnf); first | rfl | exact fun _ => rfl | exact ⟨jq, rfl⟩) ?_; conv => whnf)
      refine ⟨[r], rfl, bd, ?_⟩
      conv => whnf
      repeat (refine rc_i (by (conv => whnf); first | rfl | exact fun _ => rfl | exact ⟨jq, rfl⟩) ?_; conv => whnf)
      refine ⟨jq, ?_⟩
      conv => whnf
      refine ⟨[.unf 640], ?_⟩
      conv => whnf
      refine ⟨(t, ([] : List RecX) ++ [r]), rfl, ?_⟩
      conv => whnf
      refine back [(160, 160), (640, 208)] ⟨rfl, ⟨hinc, rfl, rfl, rfl, trivial⟩, rfl, ?_, trivial⟩
      rw [hA]; rfl
    · replace h6 : ((G.length : Int) == 0) = false := h6
      have hG0 : 0 < G.length := by simp at h6; exact List.length_pos_iff.2 h6
      obtain ⟨Q, ⟨pt, pr⟩, rfl⟩ : ∃ Q p, G = Q ++ [p] := ⟨G.dropLast, G.getLast (List.length_pos_iff.1 hG0), (List.dropLast_concat_getLast _).symm⟩
      have hpl := hgr (pt, pr) (by simp)
      replace hpl : pr.length ≤ 200 := by
        have h9 : pr.length ≤ min i Z.length := hpl
        omega
      rw [List.length_append] at hgl hG0
      simp only [List.length_singleton] at hgl hG0
      have ej : IntKind.i64.wrap (((Q ++ [(pt, pr)]).length : Int) - 1) = (Q.length : Int) := by simp only [List.length_append, List.length_singleton]; rw [w64 (by omega) (by omega)]; omega
      have hj : (Q ++ [(pt, pr)])[Q.length]? = some (pt, pr) := by simp
      have jq : (IntKind.i64.wrap (((Q ++ [(pt, pr)]).length : Int) - 1)).toNat = Q.length := by rw [ej]; rfl
      conv => whnf
      refine ⟨(ixE ej hj).1, (ixE ej hj).2, ?_⟩
      conv => whnf
      repeat (refine rc_i (by (conv => whnf); first | rfl | exact fun _ => rfl | exact ⟨(ixE ej hj).1, (ixE ej hj).2, rfl⟩ | exact ex2 _ (nthE ej hj) rfl) ?_; conv => whnf)
      refine ex2 _ (nthE ej hj) ?_
      conv => whnf
      repeat (refine rc_i (by (conv => whnf); first | rfl | exact fun _ => rfl | exact ⟨(ixE ej hj).1, (ixE ej hj).2, rfl⟩ | exact ex2 _ (nthE ej hj) rfl) ?_; conv => whnf)
      refine br2 (fun h7 => ?_) (fun h7 => ?_)
      · have h8 : pt ≠ t := fun e => by
          replace h7 : (!txEq pt t) = true := h7
          rw [e, txEq_iff.2 rfl] at h7; cases h7
        conv => whnf
        refine ⟨5, RecX, RecX.ds, fun _ => rfl, ?_⟩
        conv => whnf
        refine ⟨[(t, [])], rfl, (show (Q ++ [(pt, pr)]).length + 1 ≤ 4294967296 by rw [List.length_append]; simp; omega), ?_⟩
        conv => whnf
        intro _
        conv => whnf
        clear ej hj jq
        have ej : IntKind.i64.wrap ((((Q ++ [(pt, pr)]) ++ [(t, [])]).length : Int) - 1) = ((Q.length + 1 : Nat) : Int) := by simp only [List.length_append, List.length_singleton]; rw [w64 (by omega) (by omega)]; omega
        have hj : ((Q ++ [(pt, pr)]) ++ [(t, [])])[Q.length + 1]? = some (t, []) := by simp
        have jq : (IntKind.i64.wrap ((((Q ++ [(pt, pr)]) ++ [(t, [])]).length : Int) - 1)).toNat = Q.length + 1 := by rw [ej]; rfl
        have bd : ([] : List RecX).length + 1 ≤ 4294967296 := by decide
        have hA : addG (Q ++ [(pt, pr)]) (VX.u ⟨⟨k, t, n, r⟩, hg⟩) = ((Q ++ [(pt, pr)]) ++ [(t, [])]).set (Q.length + 1) (t, [] ++ [r]) := addG_new (u := (t, n.toNat, r)) h8
        refine ⟨(ixE ej hj).1, (ixE ej hj).2, ?_⟩
        conv => whnf
        refine ⟨[.foc 640 (Q.length + 1) 1000], ?_⟩
        conv => whnf
        refine ex2 _ (nthN hj) ?_
        conv => whnf
        refine ⟨jq, ?_⟩
        conv => whnf
        repeat (refine rc_i (by (conv => whnf); first | rfl | exact fun _ => rfl | exact ⟨jq, rfl⟩) ?_; conv => whnf)
        refine ⟨[r], rfl, bd, ?_⟩
        conv => whnf
        repeat (refine rc_i (by (conv => whnf); first | rfl | exact fun _ => rfl | exact ⟨jq, rfl⟩) ?_; conv => whnf)
        refine ⟨jq, ?_⟩
        conv => whnf
        refine ⟨[.unf 640], ?_⟩
        conv => whnf
        refine ⟨(t, ([] : List RecX) ++ [r]), rfl, ?_⟩
        conv => whnf
        refine back [(160, 160), (640, 208)] ⟨rfl, ⟨hinc, rfl, rfl, rfl, trivial⟩, rfl, ?_, trivial⟩
        rw [hA]; rfl
      · have h8 : pt = t := by
          replace h7 : (!txEq pt t) = false := h7
          rw [Bool.not_eq_false'] at h7
          exact txEq_iff.1 h7
        subst h8
        conv => whnf
        intro _
        conv => whnf
        have bd : pr.length + 1 ≤ 4294967296 := by omega
        have hA : addG (Q ++ [(pt, pr)]) (VX.u ⟨⟨k, pt, n, r⟩, hg⟩) = (Q ++ [(pt, pr)]).set Q.length (pt, pr ++ [r]) := addG_same (u := (pt, n.toNat, r)) rfl
        refine ⟨(ixE ej hj).1, (ixE ej hj).2, ?_⟩
        conv => whnf
        refine ⟨[.foc 208 Q.length 1000], ?_⟩
        conv => whnf
        refine ex2 _ (nthN hj) ?_
        conv => whnf
        refine ⟨jq, ?_⟩
        conv => whnf
        repeat (refine rc_i (by (conv => whnf); first | rfl | exact fun _ => rfl | exact ⟨jq, rfl⟩) ?_; conv => whnf)
        refine ⟨[r], rfl, bd, ?_⟩
        conv => whnf
        repeat (refine rc_i (by (conv => whnf); first | rfl | exact fun _ => rfl | exact ⟨jq, rfl⟩) ?_; conv => whnf)
        refine ⟨jq, ?_⟩
        conv => whnf
        refine ⟨[.unf 208], ?_⟩
        conv => whnf
        refine ⟨(pt, pr ++ [r]), rfl, ?_⟩
        conv => whnf
        refine back [(160, 160), (208, 208)] ⟨rfl, ⟨hinc, rfl, rfl, rfl, trivial⟩, rfl, ?_, trivial⟩
        rw [hA]; rfl
  · have hi : i = Z.length := by have := of_decide_eq_false h5; omega
    subst hi
    rw [List.take_length] at *
    conv => whnf
    exact ⟨⟨rfl, groups (Z.map VX.u), rfl, fin⟩⟩
theorem iPreps0M_ok : FnOk Tryz.prog 33 cPreps0M := fnOk_of fun x => fnX_at tab_ok (SOk.cons gh_ok (SOk.cons gh_ok (SOk.cons gh_ok (SOk.cons gh_ok (SOk.cons iUnders_ok (SOk.cons sortU_ok SOk.nil)))))) mixed (fn := Tryz.f33) (code := body Tryz.f33) ⟨Tryz.func33, rfl, by kernel_rfl, by kernel_rfl, by kernel_rfl, by kernel_rfl⟩ (ev_iPreps0M x)
def pfx (e : EdX) : EdX := ⟨⟨#[100]⟩ ++ e.key, e.val, e.gone⟩
def datE (r : RecX) : Option EdX := (datR r).map pfx
noncomputable def edP (x : TxX) (yes : Bool) (p : PrpX) : List EdX := if p.1 = x ∧ yes = true then p.2.filterMap datE else []
noncomputable def edU (x : TxX) (u : UnX) : List EdX := if u.tx = x then [⟨u.key, ByteArray.empty, true⟩] else []
def EndR (N : List NodeX) (x : TxX) (yes : Bool) (E : List EdX) : Prop := ∃ l P, AllR N l ∧ PrepsR l P ∧ E = P.flatMap (edP x yes) ++ (undL l).flatMap (edU x)
theorem EndR.same {N : List NodeX} {x : TxX} {yes : Bool} {E F : List EdX} (h : EndR N x yes E) (h' : EndR N x yes F) : E = F := by
  obtain ⟨l, P, h1, h2, rfl⟩ := h
  obtain ⟨l', P', h3, h4, rfl⟩ := h'
  rw [h1.uniq h3] at h2 ⊢
  rw [h2.same h4]
def cEnd : Con := relC (TreeX × TxX × Bool) [(.rd, true), (.rd, true), (.rd, false)] [false] (fun x => [[.row 3 NodeX.ds x.1.N], x.2.1.ds, [.lf (.bool x.2.2)]]) (fun x r => ∃ E, r = [[.row 3 EdX.ds E]] ∧ EndR x.1.N x.2.1 x.2.2 E)
noncomputable abbrev eSS : Cons := [(1000002, cGh), (32, cTreeAll), (33, cPreps0M), (35, cUnders), (34, cDat)]
def eS1 (l : List RngX) (P : List PrpX) (yes : Bool) (i : Nat) : Sl := [(23, .lf (.int .i64 i)), (22, .lf (.int .i64 P.length)), (21, .sl 336 none), (8, .sl 304 none), (7, .sl 272 none), (4, .pt 64 0 0), (2, .lf (.bool yes))]
def eH1 (l : List RngX) (P : List PrpX) (x : TxX) (E : List EdX) : Hp := [(336, some (.row .ro 4 encP P)), (304, some (.row .own 2 RngX.ds l)), (272, some (.row .own 3 EdX.ds E)), (64, some (.arr true 3 [[.lf (.int .i64 x.c), .lf (.int .i64 x.e), .lf (.int .i64 x.n)]]))]
def eS2 (l : List RngX) (P : List PrpX) (yes : Bool) (i : Nat) (rs : List RecX) (j : Nat) : Sl := (38, .lf (.int .i64 j)) :: (37, .lf (.int .i64 rs.length)) :: (36, .sl 416 none) :: eS1 l P yes i
def eH2 (l : List RngX) (P : List PrpX) (x : TxX) (rs : List RecX) (E : List EdX) : Hp := (416, some (.row .ro 5 RecX.ds rs)) :: eH1 l P x E
theorem fmT_succ {rs : List RecX} {j : Nat} {r : RecX} (h : rs[j]? = some r) : (rs.take (j + 1)).filterMap datE = (rs.take j).filterMap datE ++ (datE r).toList := by
  rw [List.take_add_one, h, List.filterMap_append]
  cases e : datE r <;> simp [e]
theorem datR_key {r : RecX} {e : EdX} (h : datR r = some e) : e.key = r.key := by
  unfold datR at h
  split at h
  · cases h; rfl
  · split at h
    · cases h; rfl
    · cases h
section
variable {l : List RngX} {P : List PrpX} {x : TxX} {i : Nat} {yes : Bool} {K : E → Sl → Hp → Prop}
theorem p9_in {rs : List RecX} {E0 E1 : List EdX} {j : Nat} (hk : ∀ r ∈ rs, r.key.size ≤ 1048576) (hr : rs.length ≤ 3200) (h0 : E0.length ≤ 1048576) (hj : j ≤ rs.length) (h1 : E1 = E0 ++ (rs.take j).filterMap datE)
    (hN : j < rs.length → ∀ s h ρ E2, E2 = E0 ++ (rs.take (j + 1)).filterMap datE → Le ρ (eS2 l P yes i rs (j + 1)) (eH2 l P x rs E2) s h → K .normal s h) (hE : j = rs.length → ∀ v, K (.exit 2) ((39, .lf (.bool false)) :: (39, .lf (.bool v)) :: eS2 l P yes i rs j) (eH2 l P x rs E1)) :
    evX tab eSS (cAt [2, 2, 2, 1, 2, 3, 4, 2, 2, 1, 3, 2, 2, 2, 3, 4] (body Tryz.f10)) (eS2 l P yes i rs j) (eH2 l P x rs E1) K := by
  have hL : E1.length + 1 ≤ 4294967296 := by
    rw [h1, List.length_append]
    have h2 := List.length_filterMap_le datE (rs.take j)
    rw [List.length_take] at h2
    omega
  conv => whnf
  refine br2 (fun h7 => ?_) (fun h7 => ?_)
  · have hj : j < rs.length := by have := of_decide_eq_true h7; omega
    obtain ⟨r, hq⟩ := getL hj
    have hinc := incI hj (show rs.length ≤ 9223372036854775807 by omega)
    have hT := fmT_succ hq
    conv => whnf
    refine ⟨Int.natCast_nonneg _, ltI hq, ?_⟩
    conv => whnf
    refine ex2 _ (nthI hq) ?_
    conv => whnf
    refine ⟨r, rfl, ?_⟩
    rintro _ _ ⟨rfl, e, ok, rfl, d1, d2⟩
    conv => whnf
    replace d1 : ok = true → datR r = some e := d1
    replace d2 : ok = false → datR r = none := d2
    cases ok with
    | false =>
      conv => whnf
      refine hN hj _ _ [(416, 416), (336, 336), (304, 304), (272, 272), (64, 64)] E1 ?_ ?_
      · rw [hT, show datE r = none by unfold datE; rw [d2 rfl]; rfl, h1]; simp
      exact ⟨rfl, ⟨hinc, rfl, rfl, rfl, rfl, rfl, rfl, rfl, rfl, rfl, trivial⟩, rfl, rfl, rfl, rfl, rfl, trivial⟩
    | true =>
      have hke : (ByteArray.mk #[100]).size + e.key.size ≤ lim := by
        rw [datR_key (d1 rfl)]
        have := hk r (List.mem_of_getElem? hq)
        show 1 + r.key.size ≤ 4294967296
        omega
      conv => whnf
      refine ⟨hke, ?_⟩
      conv => whnf
      refine ⟨[pfx e], rfl, hL, ?_⟩
      conv => whnf
      refine hN hj _ _ [(416, 416), (336, 336), (304, 304), (880, 272), (64, 64)] (E1 ++ [pfx e]) ?_ ?_
      · rw [hT, show datE r = some (pfx e) by unfold datE; rw [d1 rfl]; rfl, h1]; simp
      exact ⟨rfl, ⟨hinc, rfl, rfl, rfl, rfl, rfl, rfl, rfl, rfl, rfl, trivial⟩, rfl, rfl, rfl, rfl, rfl, trivial⟩
  · have hj : j = rs.length := by have := of_decide_eq_false h7; omega
    conv => whnf
    exact hE hj _
theorem fmP_succ {i : Nat} {p : PrpX} (h : P[i]? = some p) : (P.take (i + 1)).flatMap (edP x yes) = (P.take i).flatMap (edP x yes) ++ edP x yes p := by
  rw [List.take_add_one, h, List.flatMap_append]
  simp
theorem p9_out {E1 : List EdX} (hl : P.length ≤ 200) (hb : ∀ p ∈ P, p.2.length ≤ 3200 ∧ ∀ r ∈ p.2, r.key.size ≤ 1048576) (hi0 : i ≤ P.length) (h1 : E1 = (P.take i).flatMap (edP x yes)) (h2 : E1.length ≤ 3200 * i)
    (hN : i < P.length → ∀ s h ρ E2, E2 = (P.take (i + 1)).flatMap (edP x yes) → E2.length ≤ 3200 * (i + 1) → Le ρ (eS1 l P yes (i + 1)) (eH1 l P x E2) s h → K .normal s h) (hE : i = P.length → ∀ v, K (.exit 0) ((24, .lf (.bool false)) :: (24, .lf (.bool v)) :: eS1 l P yes i) (eH1 l P x E1)) :
    evX tab eSS (cAt [2, 2, 2, 1, 2, 3, 4] (body Tryz.f10)) (eS1 l P yes i) (eH1 l P x E1) K := by
  conv => whnf
  refine br2 (fun h7 => ?_) (fun h7 => ?_)
  · have hi : i < P.length := by have := of_decide_eq_true h7; omega
    obtain ⟨⟨t, rs⟩, hq⟩ := getL hi
    obtain ⟨b1, b2⟩ := hb _ (List.mem_of_getElem? hq)
    replace b1 : rs.length ≤ 3200 := b1
    have hinc := incI hi (show P.length ≤ 9223372036854775807 by omega)
    have hT := fmP_succ (x := x) (yes := yes) hq
    have skip : edP x yes (t, rs) = [] → E1 = (P.take (i + 1)).flatMap (edP x yes) := fun e => by rw [hT, e, h1]; simp
    conv => whnf
    refine ⟨Int.natCast_nonneg _, ltI hq, ?_⟩
    conv => whnf
    refine ex2 _ (nthI hq) ?_
    conv => whnf
    refine br2 (fun h8 => ?_) (fun h8 => ?_)
    · have n1 : t ≠ x := fun e => by
        replace h8 : (!txEq t x) = true := h8
        rw [txEq_iff.2 e] at h8; cases h8
      conv => whnf
      refine hN hi _ _ [(336, 336), (304, 304), (272, 272), (64, 64)] E1 (skip (by unfold edP; rw [if_neg fun e => n1 e.1])) (by omega) ?_
      exact ⟨rfl, ⟨hinc, rfl, rfl, rfl, rfl, rfl, rfl, trivial⟩, rfl, rfl, rfl, rfl, trivial⟩
    have e1 : t = x := by
      replace h8 : (!txEq t x) = false := h8
      rw [Bool.not_eq_false'] at h8
      exact txEq_iff.1 h8
    cases yes with
    | false =>
      conv => whnf
      refine hN hi _ _ [(336, 336), (304, 304), (272, 272), (64, 64)] E1 (skip (by unfold edP; rw [if_neg fun e => by cases e.2])) (by omega) ?_
      exact ⟨rfl, ⟨hinc, rfl, rfl, rfl, rfl, rfl, rfl, trivial⟩, rfl, rfl, rfl, rfl, trivial⟩
    | true =>
      have hed : edP x true (t, rs) = rs.filterMap datE := by unfold edP; rw [if_pos ⟨e1, rfl⟩]
      conv => whnf
      intro _
      conv => whnf
      refine ⟨fun z s h => ∃ (j : Nat) (E2 : List EdX), j ≤ rs.length ∧ E2 = E1 ++ (rs.take j).filterMap datE ∧ z = rs.length - j ∧ s = eS2 l P true i rs j ∧ h = eH2 l P x rs E2, rs.length, [(416, 416), (336, 336), (304, 304), (272, 272), (64, 64)], eS2 l P true i rs 0, eH2 l P x rs E1, ⟨rfl, ⟨rfl, rfl, rfl, rfl, rfl, rfl, rfl, rfl, rfl, rfl, trivial⟩, rfl, rfl, rfl, rfl, rfl, trivial⟩, ⟨0, E1, by omega, by simp, by omega, rfl, rfl⟩, ?_⟩
      rintro z _ _ ⟨j, E2, g1, g2, rfl, rfl, rfl⟩
      refine p9_in b2 b1 (by omega) g1 g2 (fun hj s h ρ E3 q1 hle => ⟨rs.length - (j + 1), ρ, _, _, by omega, hle, j + 1, E3, hj, q1, rfl, rfl, rfl⟩) (fun hj v => ?_)
      subst hj
      rw [List.take_length] at g2
      conv => whnf
      refine hN hi _ _ [(336, 336), (304, 304), (272, 272), (64, 64)] E2 (by rw [hT, hed, g2, h1]) (by
        rw [g2, List.length_append]
        have := List.length_filterMap_le datE rs
        omega) ?_
      exact ⟨rfl, ⟨hinc, rfl, rfl, rfl, rfl, rfl, rfl, trivial⟩, rfl, rfl, rfl, rfl, trivial⟩
  · have hi : i = P.length := by have := of_decide_eq_false h7; omega
    conv => whnf
    exact hE hi _
def eS4 (U : List UnX) (j : Nat) : Sl := [(61, .lf (.int .i64 j)), (60, .lf (.int .i64 U.length)), (59, .sl 944 none), (7, .sl 272 none), (4, .pt 64 0 0)]
def eH4 (U : List UnX) (x : TxX) (E : List EdX) : Hp := [(944, some (.row .own 10 UnX.ds U)), (272, some (.row .own 3 EdX.ds E)), (64, some (.arr true 3 [[.lf (.int .i64 x.c), .lf (.int .i64 x.e), .lf (.int .i64 x.n)]]))]
theorem fmU_succ {U : List UnX} {j : Nat} {u : UnX} (h : U[j]? = some u) : (U.take (j + 1)).flatMap (edU x) = (U.take j).flatMap (edU x) ++ edU x u := by
  rw [List.take_add_one, h, List.flatMap_append]
  simp
theorem edU_len (U : List UnX) : (U.flatMap (edU x)).length ≤ U.length := by
  induction U with
  | nil => simp
  | cons u U ih =>
    have : (edU x u).length ≤ 1 := by unfold edU; split <;> simp
    simp only [List.flatMap_cons, List.length_append, List.length_cons]
    omega
theorem p9_un {U : List UnX} {E0 E1 : List EdX} {j : Nat} (hU : U.length ≤ 200) (h0 : E0.length ≤ 1048576) (hj : j ≤ U.length) (h1 : E1 = E0 ++ (U.take j).flatMap (edU x))
    (hN : j < U.length → ∀ s h ρ E2, E2 = E0 ++ (U.take (j + 1)).flatMap (edU x) → Le ρ (eS4 U (j + 1)) (eH4 U x E2) s h → K .normal s h) (hE : j = U.length → ∀ v, K (.exit 4) ((62, .lf (.bool false)) :: (62, .lf (.bool v)) :: eS4 U j) (eH4 U x E1)) :
    evX tab eSS (cAt [2, 2, 2, 2, 1, 2, 3, 4] (body Tryz.f10)) (eS4 U j) (eH4 U x E1) K := by
  have hL : E1.length + 1 ≤ 4294967296 := by
    rw [h1, List.length_append]
    have h2 := edU_len (x := x) (U.take j)
    rw [List.length_take] at h2
    omega
  conv => whnf
  refine br2 (fun h7 => ?_) (fun h7 => ?_)
  · have hj : j < U.length := by have := of_decide_eq_true h7; omega
    obtain ⟨u, hq⟩ := getL hj
    have hinc := incI hj (show U.length ≤ 9223372036854775807 by omega)
    have hT := fmU_succ (x := x) hq
    conv => whnf
    refine ⟨Int.natCast_nonneg _, ltI hq, ?_⟩
    conv => whnf
    refine ex2 _ (nthI hq) ?_
    conv => whnf
    refine br2 (fun h8 => ?_) (fun h8 => ?_)
    · have n1 : u.tx = x := txEq_iff.1 h8
      conv => whnf
      refine ⟨[⟨u.key, ByteArray.empty, true⟩], rfl, hL, ?_⟩
      conv => whnf
      refine hN hj _ _ [(944, 944), (1184, 272), (64, 64)] (E1 ++ [⟨u.key, ByteArray.empty, true⟩]) ?_ ?_
      · rw [hT, show edU x u = [⟨u.key, ByteArray.empty, true⟩] by unfold edU; rw [if_pos n1], h1]; simp
      exact ⟨rfl, ⟨hinc, rfl, rfl, rfl, rfl, trivial⟩, rfl, rfl, rfl, trivial⟩
    · have n1 : u.tx ≠ x := fun e => by
        replace h8 : txEq u.tx x = false := h8
        rw [txEq_iff.2 e] at h8; cases h8
      conv => whnf
      refine hN hj _ _ [(944, 944), (272, 272), (64, 64)] E1 ?_ ?_
      · rw [hT, show edU x u = [] by unfold edU; rw [if_neg n1], h1]; simp
      exact ⟨rfl, ⟨hinc, rfl, rfl, rfl, rfl, trivial⟩, rfl, rfl, rfl, trivial⟩
  · have hj : j = U.length := by have := of_decide_eq_false h7; omega
    conv => whnf
    exact hE hj _
end
theorem recKey_le {r : RecX} (h : recOkB r = true) : r.key.size ≤ 1048576 := by
  unfold recOkB at h
  split at h
  · simp [userOkB] at h
    omega
  · split at h
    · simp [userOkB] at h
      omega
    · split at h
      · simp only [Bool.and_eq_true] at h
        rw [emp_iff.1 h.1.1]
        decide
      · cases h
theorem prp_keys {l : List RngX} {P : List PrpX} (h : PrepsR l P) : ∀ p ∈ P, ∀ r ∈ p.2, r.key.size ≤ 1048576 ∧ recOkB r = true := fun p hp r hr => by
  rw [h.recs p hp] at hr
  unfold recsOf at hr
  obtain ⟨n, -, hr⟩ := List.mem_flatMap.1 hr
  obtain ⟨u, hu, rfl⟩ := List.mem_map.1 hr
  obtain ⟨w, hw, rfl⟩ := List.mem_map.1 (List.mem_filter.1 hu).1
  obtain ⟨q, -, hq⟩ := undL_ok hw
  have hk := hq.rc
  refine ⟨?_, hk⟩
  exact recKey_le hk
theorem ev_iEndEdits : ∀ x, evFnX tab [(1000002, cGh), (32, cTreeAll), (33, cPreps0M), (35, cUnders), (34, cDat)] cEnd Tryz.f10 (body Tryz.f10) x := by
  rintro ⟨⟨N, f, hf, hN, hp⟩, ⟨a, b, c⟩, yes⟩
  conv => whnf
  refine ⟨[.row 272], ?_⟩
  conv => whnf
  refine ⟨EdX, EdX.ds, [], fun _ => rfl, rfl, ?_⟩
  conv => whnf
  refine ⟨⟨N, f, hf, hN, hp⟩, rfl, ?_⟩
  rintro _ _ ⟨rfl, l, rfl, ha⟩
  conv => whnf
  replace ha : AllR N l := ha
  refine ⟨⟨l, ha.okk⟩, rfl, ?_⟩
  rintro _ _ ⟨rfl, P, rfl, hP⟩
  conv => whnf
  have hs := PrepsT.small ⟨l, ha, hP⟩
  have hb := prp_keys hP
  intro _
  conv => whnf
  refine ⟨fun z s h => ∃ (i : Nat) (E1 : List EdX), i ≤ P.length ∧ E1 = (P.take i).flatMap (edP ⟨a, b, c⟩ yes) ∧ E1.length ≤ 3200 * i ∧ z = P.length - i ∧ s = eS1 l P yes i ∧ h = eH1 l P ⟨a, b, c⟩ E1, P.length, [(336, 336), (304, 304), (272, 272), (64, 64)], eS1 l P yes 0, eH1 l P ⟨a, b, c⟩ [], ⟨rfl, ⟨rfl, rfl, rfl, rfl, rfl, rfl, rfl, trivial⟩, rfl, rfl, rfl, rfl, trivial⟩, ⟨0, [], by omega, by simp, by simp, by omega, rfl, rfl⟩, ?_⟩
  rintro z _ _ ⟨i, E1, g1, g2, g3, rfl, rfl, rfl⟩
  refine p9_out hs.1 (fun p hp => ⟨hs.2 p hp, fun r hr => (hb p hp r hr).1⟩) g1 g2 g3 (fun hi s h ρ E2 q1 q2 hle => ⟨P.length - (i + 1), ρ, _, _, by omega, hle, i + 1, E2, hi, q1, q2, rfl, rfl, rfl⟩) (fun hi v => ?_)
  subst hi
  rw [List.take_length] at g2
  have hU : (undL l).length ≤ 200 := Nat.le_trans (undL_len l) ha.okk.len
  conv => whnf
  refine ⟨⟨l, ha.okk⟩, rfl, ?_⟩
  rintro _ _ ⟨rfl, rfl⟩
  conv => whnf
  intro _
  conv => whnf
  refine ⟨fun z s h => ∃ (j : Nat) (E2 : List EdX), j ≤ (undL l).length ∧ E2 = E1 ++ ((undL l).take j).flatMap (edU ⟨a, b, c⟩) ∧ z = (undL l).length - j ∧ s = eS4 (undL l) j ∧ h = eH4 (undL l) ⟨a, b, c⟩ E2, (undL l).length, [(944, 944), (272, 272), (64, 64)], eS4 (undL l) 0, eH4 (undL l) ⟨a, b, c⟩ E1, ⟨rfl, ⟨rfl, rfl, rfl, rfl, rfl, trivial⟩, rfl, rfl, rfl, trivial⟩, ⟨0, E1, by omega, by simp, by omega, rfl, rfl⟩, ?_⟩
  rintro z _ _ ⟨j, E2, q1, q2, rfl, rfl, rfl⟩
  refine p9_un hU (by omega) q1 q2 (fun hj s h ρ E3 w1 hle => ⟨(undL l).length - (j + 1), ρ, _, _, by omega, hle, j + 1, E3, hj, w1, rfl, rfl, rfl⟩) (fun hj v => ?_)
  subst hj
  rw [List.take_length] at q2
  conv => whnf
  exact ⟨⟨rfl, E2, rfl, l, P, ha, hP, by rw [q2, g2]⟩⟩
theorem iEndEdits_ok : FnOk Tryz.prog 10 cEnd := fnOk_of fun x => fnX_at tab_ok (SOk.cons gh_ok (SOk.cons iTreeAll_ok (SOk.cons iPreps0M_ok (SOk.cons iUnders_ok (SOk.cons iDataOf_ok SOk.nil))))) mixed (fn := Tryz.f10) (code := body Tryz.f10) ⟨Tryz.func10, rfl, by kernel_rfl, by kernel_rfl, by kernel_rfl, by kernel_rfl⟩ (ev_iEndEdits x)
end Go.Vm
namespace Go.Vm
open Go.Proofs
set_option maxRecDepth 100000
set_option linter.unusedVariables false
set_option linter.unusedSimpArgs false
set_option maxHeartbeats 8000000

def cPrepsM : Con := { cPreps with resOwn := false }
theorem ev_sPrepsM : ∀ x, evFnX tab [(1000003, cGh), (1000019, cGh), (1000032, cGh), (29, cTreeAll), (30, cRead8), (40, cTxText)] cPrepsM Tryz.f16 (body Tryz.f16) x := by
  rintro ⟨N, f, hf, hN, hp⟩
  conv => whnf
  refine ⟨⟨N, f, hf, hN, hp⟩, rfl, ?_⟩
  rintro _ _ ⟨rfl, l, rfl, ha⟩
  conv => whnf
  replace ha : AllR N l := ha
  have hP := ha.okk
  have hl : l.length ≤ 200 := hP.len
  refine ⟨[.row 368], ?_⟩
  conv => whnf
  refine ⟨Option PrpX, encPO, [], encPO_len, rfl, ?_⟩
  conv => whnf
  intro _
  conv => whnf
  let S0 : Nat → Sl := fun i => [(28, .lf (.int .i64 i)), (27, .lf (.int .i64 l.length)), (26, .sl 400 none), (4, .sl 400 none), (3, .sl 368 none)]
  let H0 : List PrpX → Hp := fun q => pH0 l q
  refine ⟨fun m s h => ∃ (i : Nat) (P : List PrpX), i ≤ l.length ∧ CanonS txT ((undL l).map UnX.u) ((undL (l.take i)).map UnX.u) P ∧ P.length ≤ i ∧ m = l.length - i ∧ s = S0 i ∧ h = H0 P, l.length, [(400, 400), (368, 368)], S0 0, H0 [], ⟨rfl, ⟨rfl, rfl, rfl, rfl, rfl, trivial⟩, rfl, rfl, trivial⟩, ⟨0, [], by omega, canonS_nil, by simp, by omega, rfl, rfl⟩, ?_⟩
  rintro m _ _ ⟨i, P, g1, g2, g3, rfl, rfl, rfl⟩
  conv => whnf
  refine br2 (fun h5 => ?_) (fun h5 => ?_)
  · have hi : i < l.length := by have := of_decide_eq_true h5; omega
    obtain ⟨y, hy⟩ := getL hi
    obtain ⟨b1, b2, b3⟩ := pairs_prX hP (List.mem_of_getElem? hy)
    have hT := undL_take hy
    have hinc := incI hi (show l.length ≤ 9223372036854775807 by omega)
    have back : ∀ {s' : Sl} {h' : Hp} (ρ : List (Nat × Nat)) (P' : List PrpX), CanonS txT ((undL l).map UnX.u) ((undL (l.take (i + 1))).map UnX.u) P' → P'.length ≤ i + 1 → Le ρ (S0 (i + 1)) (H0 P') s' h' → ∃ m' ρ s'' h'', m' < l.length - i ∧ Le ρ s'' h'' s' h' ∧ ∃ (i : Nat) (P : List PrpX), i ≤ l.length ∧ CanonS txT ((undL l).map UnX.u) ((undL (l.take i)).map UnX.u) P ∧ P.length ≤ i ∧ m' = l.length - i ∧ s'' = S0 i ∧ h'' = H0 P := fun ρ P' hc hlp hle =>
      ⟨l.length - (i + 1), ρ, _, _, by omega, hle, i + 1, P', hi, hc, hlp, rfl, rfl, rfl⟩
    conv => whnf
    refine ⟨Int.natCast_nonneg _, ltI hy, ?_⟩
    conv => whnf
    refine ex2 _ (nthI hy) ?_
    conv => whnf
    refine ⟨⟨y, b1, b2, b3⟩, rfl, ?_⟩
    rintro _ _ ⟨rfl, x, n, r, ok, rfl, k1, k2⟩
    conv => whnf
    replace k1 : ok = true → undP y = some ⟨y.lo, x, n, r⟩ := k1
    replace k2 : ok = false → undP y = none ∧ x = tx0 := k2
    intro _
    conv => whnf
    intro _
    conv => whnf
    refine ⟨fun z s h => ∃ (kn : Bool) (a j : Nat), j ≤ P.length ∧ (kn = true ↔ ok = false ∨ ∃ p ∈ P.take j, p.1 = x) ∧ PlaceI x P j a ∧ z = P.length - j ∧ s = pS1 l P i kn a j ∧ h = pH1 l P x, P.length, [(400, 400), (368, 368), (112, 112)], pS1 l P i (!ok) P.length 0, pH1 l P x, ⟨rfl, ⟨rfl, rfl, (by rw [List.length_map]; rfl), rfl, rfl, rfl, rfl, rfl, rfl, rfl, trivial⟩, rfl, rfl, rfl, trivial⟩, ⟨!ok, P.length, 0, by omega, by simp, ⟨.inl rfl, by simp⟩, by omega, rfl, rfl⟩, ?_⟩
    rintro z _ _ ⟨kn, a, j, f0, f1, f2, rfl, rfl, rfl⟩
    refine p6_body2 (ok := ok) (by omega) f0 f1 f2 (fun hj s h kn' a' ρ q1 q2 hle => ⟨P.length - (j + 1), ρ, _, _, by omega, hle, kn', a', j + 1, hj, q1, q2, rfl, rfl, rfl⟩) (fun hjl v => ?_)
    subst hjl
    rw [List.take_length] at f1
    cases kn with
    | true =>
      have hc : CanonS txT ((undL l).map UnX.u) ((undL (l.take (i + 1))).map UnX.u) P := by
        rw [hT]
        rcases f1.1 rfl with e | ⟨p, hp, e⟩
        · rw [(k2 e).1]; simpa using g2
        · cases ok with
          | false => rw [(k2 rfl).1]; simpa using g2
          | true =>
            rw [k1 rfl, List.map_append]
            exact canonS_skip g2 ⟨p, hp, e⟩
      conv => whnf
      exact back [(400, 400), (368, 368)] P hc (by omega) ⟨rfl, ⟨hinc, rfl, rfl, rfl, rfl, trivial⟩, rfl, rfl, trivial⟩
    | false =>
      have hok : ok = true := by
        cases ok with
        | true => rfl
        | false => have := f1.2 (.inl rfl); cases this
      have hno : ∀ p ∈ P, p.1 ≠ x := fun p hp e => by have := f1.2 (.inr ⟨p, hp, e⟩); cases this
      subst hok
      have hu := k1 rfl
      have hIs := undP_is hu
      rw [hu] at hT
      have ha2 : a ≤ P.length := by
        rcases f2.1 with e | ⟨e, _⟩ <;> omega
      have hpl : (P.map some).length = P.length := List.length_map ..
      have hcan := canonS_ins (u := (⟨y.lo, x, n, r⟩ : UnX).u) (i := a) g2 (fun p hp e => by
        obtain ⟨w, hw, hw2⟩ := (g2.mem p.1).1 ⟨p, hp, rfl⟩
        obtain ⟨v, hv, rfl⟩ := List.mem_map.1 hw
        obtain ⟨p', _, hp'⟩ := undL_ok hv
        have htx : txOkB p.1 = true := by rw [← hw2]; exact hp'.tx
        exact hno p hp (txT_inj htx hIs.tx e)) (fun p hp => by
          have h9 := f2.2
          rw [show min P.length a = a by omega] at h9
          exact h9 p hp) (fun p hp => by
          rcases f2.1 with e | ⟨_, q, hq, h9⟩
          · have := (List.getElem?_eq_some_iff.1 hp).1; omega
          · rw [hp] at hq; cases hq; exact h9)
      replace hcan : CanonS txT ((undL l).map UnX.u) ((undL (l.take (i + 1))).map UnX.u) (P.take a ++ (x, recsOf ((undL l).map UnX.u) x) :: P.drop a) := by
        rw [hT, List.map_append]; exact hcan
      have hcl : (P.take a ++ (x, recsOf ((undL l).map UnX.u) x) :: P.drop a).length ≤ i + 1 := by
        rw [List.length_append, List.length_cons, List.length_take, List.length_drop]; omega
      clear k1 k2 f1 f2 hno hIs
      conv => whnf
      refine ⟨[.nlc 224 0 3 1000], ?_⟩
      conv => whnf
      refine ⟨5, RecX, RecX.ds, fun _ => rfl, ?_⟩
      conv => whnf
      refine ⟨fun z s h => ∃ (k : Nat) (rs : List RecX), k ≤ 16 ∧ rs = recsTo ((undL l).map UnX.u) x k ∧ rs.length ≤ 200 * k ∧ z = 16 - k ∧ s = pS2 l i a k ∧ h = pH2 l P x rs, 16, [(224, 224), (16000, 16000), (112, 112), (400, 400), (368, 368)], pS2 l i a 0, pH2 l P x [], ⟨rfl, ⟨rfl, rfl, rfl, rfl, rfl, rfl, rfl, rfl, rfl, trivial⟩, rfl, rfl, rfl, rfl, rfl, trivial⟩, ⟨0, [], by omega, rfl, by simp, rfl, rfl, rfl⟩, ?_⟩
      rintro z _ _ ⟨k, rs, e0, e1, e2, rfl, rfl, rfl⟩
      refine p6_body4 hP e0 e1 e2 (fun hk s h ρ rs2 q1 q2 hle => ⟨16 - (k + 1), ρ, _, _, by omega, hle, k + 1, rs2, hk, q1, q2, rfl, rfl, rfl⟩) (fun hk v => ?_)
      subst hk
      have hrs := e1
      replace hrs : rs = recsOf ((undL l).map UnX.u) x := hrs
      rw [← hrs] at hcan hcl
      have sl1 : (0 : Int) ≤ (a : Int) ∧ (a : Int) ≤ (((P.map some).length : Nat) : Int) := ⟨Int.natCast_nonneg _, by rw [hpl]; omega⟩
      conv => whnf
      refine ⟨sl1.1, sl1.2, Int.le_refl _, ?_⟩
      conv => whnf
      refine ⟨true, ?_⟩
      conv => whnf
      refine ⟨Option PrpX, encPO, [], encPO_len, rfl, ?_⟩
      conv => whnf
      refine ⟨none, rfl, ?_⟩
      conv => whnf
      refine ⟨_, rfl, ?_, ?_⟩
      · show 0 + (((P.map some).drop a).take _).length ≤ 4294967296
        rw [List.length_take, List.length_drop, hpl]; omega
      conv => whnf
      have hrow : ((P.map some).take a ++ List.replicate (((P.map some).length : Int) - (a : Int)).toNat none ++ (P.map some).drop (a + (((P.map some).length : Int) - (a : Int)).toNat)).length = P.length := by
        simp only [List.length_append, List.length_take, List.length_replicate, List.length_drop, List.length_map]; omega
      refine ⟨Int.le_refl _, sl1.1, (show (a : Int) ≤ ((((P.map some).take a ++ List.replicate (((P.map some).length : Int) - (a : Int)).toNat none ++ (P.map some).drop (a + (((P.map some).length : Int) - (a : Int)).toNat)).length : Nat) : Int) by rw [hrow]; omega), ?_⟩
      conv => whnf
      repeat (refine rc_i (by (conv => whnf); first | rfl | exact fun _ => rfl | exact ⟨Int.le_refl _, sl1.1, (show (a : Int) ≤ ((((P.map some).take a ++ List.replicate (((P.map some).length : Int) - (a : Int)).toNat none ++ (P.map some).drop (a + (((P.map some).length : Int) - (a : Int)).toNat)).length : Nat) : Int) by rw [hrow]; omega), rfl⟩) ?_; conv => whnf)
      refine ⟨[some (x, rs)], rfl, ?_, ?_⟩
      · show (List.take _ (List.drop 0 _)).length + 1 ≤ 4294967296
        rw [List.length_take]
        have : (List.drop 0 ((P.map some).take a ++ List.replicate (((P.map some).length : Int) - (a : Int)).toNat none ++ (P.map some).drop (a + (((P.map some).length : Int) - (a : Int)).toNat))).length = P.length := by rw [List.drop_zero, hrow]
        exact Nat.le_trans (Nat.add_le_add_right (Nat.min_le_right _ _) 1) (by show (List.drop 0 ((P.map some).take a ++ List.replicate (((P.map some).length : Int) - (a : Int)).toNat none ++ (P.map some).drop (a + (((P.map some).length : Int) - (a : Int)).toNat))).length + 1 ≤ _; omega)
      conv => whnf
      repeat ((first | refine rc_i rfl ?_ | refine rc_i (fun _ => rfl) ?_); conv => whnf)
      have hfin := take_cons_map (q := (x, rs)) ha2 ((((P.map some).length : Int) - (a : Int)).toNat) (k := (((P.map some).length : Int) - (a : Int)).toNat) (by rw [hpl]; omega)
      refine ⟨_, rfl, ?_, ?_⟩
      · show ((((P.map some).take a ++ List.replicate ((((P.map some).length : Int) - (a : Int)).toNat) none ++ (P.map some).drop (a + (((P.map some).length : Int) - (a : Int)).toNat)).drop 0).take a ++ [some (x, rs)]).length + (([] : List (Option PrpX)) ++ ((P.map some).drop a).take (((P.map some).length : Int) - (a : Int)).toNat).length ≤ 4294967296
        rw [← List.length_append, hfin, List.length_map]; omega
      conv => whnf
      refine back [(400, 400), (1936, 368)] _ hcan hcl ?_
      refine ⟨rfl, ⟨hinc, rfl, rfl, rfl, rfl, trivial⟩, rfl, ?_, trivial⟩
      rw [← hfin]; rfl
  · have hi : i = l.length := by have := of_decide_eq_false h5; omega
    subst hi
    rw [List.take_length] at g2
    conv => whnf
    refine ⟨[.enc 368], ?_⟩
    conv => whnf
    refine ⟨PrpX, encP, P, fun _ => rfl, by rw [List.map_map]; rfl, ?_⟩
    conv => whnf
    exact ⟨⟨rfl, P, rfl, l, ha, g2.canon⟩⟩
theorem sPrepsM_ok : FnOk Tryz.prog 16 cPrepsM := fnOk_of fun x => fnX_at tab_ok (SOk.cons gh_ok (SOk.cons gh_ok (SOk.cons gh_ok (SOk.cons sTreeAll_ok (SOk.cons sRead8_ok (SOk.cons sTxText_ok SOk.nil)))))) mixed (fn := Tryz.f16) (code := body Tryz.f16) ⟨Tryz.func16, rfl, by kernel_rfl, by kernel_rfl, by kernel_rfl, by kernel_rfl⟩ (ev_sPrepsM x)
/-- What the reference gives for one transaction's place. -/
noncomputable def edQ (x : TxX) (yes : Bool) (W : List EdX) (p : PrpX) : List EdX := if p.1 = x then edP x yes p ++ W else []
theorem edQ_flat {x : TxX} {yes : Bool} {W : List EdX} : ∀ {P : List PrpX}, P.Pairwise (fun p q => p.1 ≠ q.1) → ((¬ ∃ p ∈ P, p.1 = x) → W = []) → P.flatMap (edQ x yes W) = P.flatMap (edP x yes) ++ W
  | [], _, h => by rw [h (by rintro ⟨p, hp, _⟩; cases hp)]; rfl
  | p :: P, hP, h => by
    obtain ⟨h1, h2⟩ := List.pairwise_cons.1 hP
    by_cases e : p.1 = x
    · have n1 : ∀ q ∈ P, q.1 ≠ x := fun q hq e2 => h1 q hq (e.trans e2.symm)
      have z1 : P.flatMap (edQ x yes W) = [] := List.flatMap_eq_nil_iff.2 fun q hq => by unfold edQ; rw [if_neg (n1 q hq)]
      have z2 : P.flatMap (edP x yes) = [] := List.flatMap_eq_nil_iff.2 fun q hq => by unfold edP; rw [if_neg fun e => n1 q hq e.1]
      rw [List.flatMap_cons, List.flatMap_cons, z1, z2, List.append_nil, List.append_nil]
      unfold edQ
      rw [if_pos e]
    · rw [List.flatMap_cons, List.flatMap_cons, edQ_flat h2 fun hn => h (by
        rintro ⟨q, hq, e2⟩
        rcases List.mem_cons.1 hq with rfl | hq
        · exact e e2
        · exact hn ⟨q, hq, e2⟩)]
      have y1 : edQ x yes W p = [] := by unfold edQ; rw [if_neg e]
      have y2 : edP x yes p = [] := by unfold edP; rw [if_neg fun e2 => e e2.1]
      rw [y1, y2]; rfl
theorem edQ_preps {l : List RngX} {P : List PrpX} {x : TxX} {yes : Bool} (h : PrepsR l P) : P.flatMap (edQ x yes ((undL l).flatMap (edU x))) = P.flatMap (edP x yes) ++ (undL l).flatMap (edU x) := by
  refine edQ_flat (h.srt.imp fun {a b} hab e => ?_) fun hn => List.flatMap_eq_nil_iff.2 fun u hu => ?_
  · rw [e, strLt_irr] at hab; cases hab
  · unfold edU
    have e1 : ¬ u.tx = x := fun e => hn ((h.mem x).2 ⟨u.u, List.mem_map.2 ⟨u, hu, rfl⟩, e⟩)
    rw [if_neg e1]
theorem datE_spec {r : RecX} (h : recOkB r = true) : (r.kind ≤ 2 → datE r = some ⟨⟨#[100]⟩ ++ r.key, r.val, r.kind == 2⟩) ∧ (¬ r.kind ≤ 2 → datE r = none) := by
  unfold recOkB at h
  unfold datE datR
  split at h
  · rename_i e
    rw [if_pos e]
    refine ⟨fun _ => ?_, fun hn => absurd (by omega) hn⟩
    rw [e]; rfl
  · rename_i e1
    rw [if_neg e1]
    split at h
    · rename_i e
      rw [if_pos e]
      refine ⟨fun _ => ?_, fun hn => absurd (by omega) hn⟩
      simp only [Bool.and_eq_true] at h
      rw [e, emp_iff.1 h.1.2]; rfl
    · rename_i e2
      rw [if_neg e2]
      split at h
      · exact ⟨fun hn => by omega, fun _ => rfl⟩
      · cases h
abbrev zSS : Cons := [(1000002, cGh), (29, cTreeAll), (30, cRead8), (16, cPrepsM)]
def zS1 (P : List PrpX) (yes : Bool) (i : Nat) : Sl := [(22, .lf (.int .i64 i)), (21, .lf (.int .i64 P.length)), (20, .sl 320 none), (7, .sl 288 none), (4, .pt 64 0 0), (3, .pt 48 0 0), (2, .lf (.bool yes))]
def zH1 (N : List NodeX) (P : List PrpX) (x : TxX) (E : List EdX) : Hp := [(320, some (.row .ro 4 encP P)), (288, some (.row .own 3 EdX.ds E)), (64, some (.arr true 3 [[.lf (.int .i64 x.c), .lf (.int .i64 x.e), .lf (.int .i64 x.n)]])), (48, some (.arr true 1 [[.sl 0 none]])), (0, some (.row .lent 3 NodeX.ds N))]
def zS2 (P : List PrpX) (yes : Bool) (i : Nat) (rs : List RecX) (j : Nat) : Sl := (33, .lf (.int .i64 j)) :: (32, .lf (.int .i64 rs.length)) :: (31, .sl 400 none) :: zS1 P yes i
def zH2 (N : List NodeX) (P : List PrpX) (x : TxX) (rs : List RecX) (E : List EdX) : Hp := (400, some (.row .ro 5 RecX.ds rs)) :: zH1 N P x E
def zS3 (P : List PrpX) (yes : Bool) (i : Nat) (l : List RngX) (j : Nat) : Sl := (59, .lf (.int .i64 j)) :: (58, .lf (.int .i64 l.length)) :: (57, .sl 912 none) :: zS1 P yes i
def zH3 (N : List NodeX) (P : List PrpX) (x : TxX) (l : List RngX) (E : List EdX) : Hp := (912, some (.row .own 2 RngX.ds l)) :: zH1 N P x E
section
variable {N : List NodeX} {l : List RngX} {P : List PrpX} {x : TxX} {i : Nat} {yes : Bool} {K : E → Sl → Hp → Prop}
theorem p10_in {rs : List RecX} {E0 E1 : List EdX} {j : Nat} (hk : ∀ r ∈ rs, r.key.size ≤ 1048576 ∧ recOkB r = true) (hr : rs.length ≤ 3200) (h0 : E0.length ≤ 1048576) (hj : j ≤ rs.length) (h1 : E1 = E0 ++ (if yes = true then (rs.take j).filterMap datE else []))
    (hN : j < rs.length → ∀ s h ρ E2, E2 = E0 ++ (if yes = true then (rs.take (j + 1)).filterMap datE else []) → Le ρ (zS2 P yes i rs (j + 1)) (zH2 N P x rs E2) s h → K .normal s h) (hE : j = rs.length → ∀ v, K (.exit 2) ((34, .lf (.bool false)) :: (34, .lf (.bool v)) :: zS2 P yes i rs j) (zH2 N P x rs E1)) :
    evX tab zSS (cAt [2, 2, 1, 2, 3, 4, 2, 2, 1, 3, 2, 2, 1, 2, 3, 4] (body Tryz.f7)) (zS2 P yes i rs j) (zH2 N P x rs E1) K := by
  have hL : E1.length + 1 ≤ 4294967296 := by
    have h2 := List.length_filterMap_le datE (rs.take j)
    rw [List.length_take] at h2
    rw [h1, List.length_append]
    split
    · omega
    · simp; omega
  conv => whnf
  refine br2 (fun h7 => ?_) (fun h7 => ?_)
  · have hj : j < rs.length := by have := of_decide_eq_true h7; omega
    obtain ⟨r, hq⟩ := getL hj
    obtain ⟨hk1, hk2⟩ := hk r (List.mem_of_getElem? hq)
    obtain ⟨d1, d2⟩ := datE_spec hk2
    have hinc := incI hj (show rs.length ≤ 9223372036854775807 by omega)
    have hT := fmT_succ hq
    have hke : (ByteArray.mk #[100]).size + r.key.size ≤ lim := by
      show 1 + r.key.size ≤ 4294967296
      omega
    conv => whnf
    refine ⟨Int.natCast_nonneg _, ltI hq, ?_⟩
    conv => whnf
    refine ex2 _ (nthI hq) ?_
    conv => whnf
    cases yes with
    | false =>
      conv => whnf
      refine hN hj _ _ [(400, 400), (320, 320), (288, 288), (64, 64), (48, 48), (0, 0)] E1 (by rw [h1]; simp) ?_
      exact ⟨rfl, ⟨hinc, rfl, rfl, rfl, rfl, rfl, rfl, rfl, rfl, rfl, trivial⟩, rfl, rfl, rfl, rfl, rfl, rfl, trivial⟩
    | true =>
      conv => whnf
      refine br2 (fun h8 => ?_) (fun h8 => ?_)
      · have h8' : r.kind ≤ 2 := of_decide_eq_true h8
        conv => whnf
        refine ⟨hke, ?_⟩
        conv => whnf
        refine ⟨[⟨⟨#[100]⟩ ++ r.key, r.val, r.kind == 2⟩], rfl, hL, ?_⟩
        conv => whnf
        refine hN hj _ _ [(400, 400), (320, 320), (864, 288), (64, 64), (48, 48), (0, 0)] (E1 ++ [⟨⟨#[100]⟩ ++ r.key, r.val, r.kind == 2⟩]) (by rw [if_pos rfl, hT, d1 h8', h1]; simp) ?_
        exact ⟨rfl, ⟨hinc, rfl, rfl, rfl, rfl, rfl, rfl, rfl, rfl, rfl, trivial⟩, rfl, rfl, rfl, rfl, rfl, rfl, trivial⟩
      · have h8' : ¬ r.kind ≤ 2 := of_decide_eq_false h8
        conv => whnf
        refine hN hj _ _ [(400, 400), (320, 320), (288, 288), (64, 64), (48, 48), (0, 0)] E1 (by rw [if_pos rfl, hT, d2 h8', h1]; simp) ?_
        exact ⟨rfl, ⟨hinc, rfl, rfl, rfl, rfl, rfl, rfl, rfl, rfl, rfl, trivial⟩, rfl, rfl, rfl, rfl, rfl, rfl, trivial⟩
  · have hj : j = rs.length := by have := of_decide_eq_false h7; omega
    conv => whnf
    exact hE hj _
theorem p10_un (hP : PairsOkP l) {E0 E1 : List EdX} {j : Nat} (h0 : E0.length ≤ 1048576) (hj : j ≤ l.length) (h1 : E1 = E0 ++ (undL (l.take j)).flatMap (edU x))
    (hN : j < l.length → ∀ s h ρ E2, E2 = E0 ++ (undL (l.take (j + 1))).flatMap (edU x) → Le ρ (zS3 P yes i l (j + 1)) (zH3 N P x l E2) s h → K .normal s h) (hE : j = l.length → ∀ v, K (.exit 4) ((60, .lf (.bool false)) :: (60, .lf (.bool v)) :: zS3 P yes i l j) (zH3 N P x l E1)) :
    evX tab zSS (cAt [2, 2, 1, 2, 3, 4, 2, 2, 1, 3, 2, 2, 2, 2, 3, 4] (body Tryz.f7)) (zS3 P yes i l j) (zH3 N P x l E1) K := by
  have hl : l.length ≤ 200 := hP.len
  have hL : E1.length + 1 ≤ 4294967296 := by
    rw [h1, List.length_append]
    have h2 := edU_len (x := x) (undL (l.take j))
    have h3 := undL_len (l.take j)
    rw [List.length_take] at h3
    omega
  conv => whnf
  refine br2 (fun h7 => ?_) (fun h7 => ?_)
  · have hj : j < l.length := by have := of_decide_eq_true h7; omega
    obtain ⟨q, hq⟩ := getL hj
    have cc := pairs_prX hP (List.mem_of_getElem? hq)
    have hinc := incI hj (show l.length ≤ 9223372036854775807 by omega)
    have hT := undL_take hq
    conv => whnf
    refine ⟨Int.natCast_nonneg _, ltI hq, ?_⟩
    conv => whnf
    refine ex2 _ (nthI hq) ?_
    conv => whnf
    refine ⟨⟨q, cc.1, cc.2.1, cc.2.2⟩, rfl, ?_⟩
    rintro _ _ ⟨rfl, x', n', r', ok', rfl, d1, d2⟩
    conv => whnf
    replace d1 : ok' = true → undP q = some ⟨q.lo, x', n', r'⟩ := d1
    replace d2 : ok' = false → undP q = none ∧ x' = tx0 := d2
    cases ok' with
    | false =>
      conv => whnf
      refine hN hj _ _ [(912, 912), (320, 320), (288, 288), (64, 64), (48, 48), (0, 0)] E1 (by rw [hT, (d2 rfl).1, h1]; simp) ?_
      exact ⟨rfl, ⟨hinc, rfl, rfl, rfl, rfl, rfl, rfl, rfl, rfl, rfl, trivial⟩, rfl, rfl, rfl, rfl, rfl, rfl, trivial⟩
    | true =>
      have hu := d1 rfl
      conv => whnf
      refine br2 (fun h8 => ?_) (fun h8 => ?_)
      · have h8' : x' = x := txEq_iff.1 h8
        conv => whnf
        refine ⟨[⟨q.lo, ByteArray.empty, true⟩], rfl, hL, ?_⟩
        conv => whnf
        refine hN hj _ _ [(912, 912), (320, 320), (1296, 288), (64, 64), (48, 48), (0, 0)] (E1 ++ [⟨q.lo, ByteArray.empty, true⟩]) ?_ ?_
        · rw [hT, hu, h1, Option.toList, List.flatMap_append, List.flatMap_cons, List.flatMap_nil, List.append_nil, show edU x ⟨q.lo, x', n', r'⟩ = [⟨q.lo, ByteArray.empty, true⟩] by unfold edU; rw [if_pos h8'], List.append_assoc]
        exact ⟨rfl, ⟨hinc, rfl, rfl, rfl, rfl, rfl, rfl, rfl, rfl, rfl, trivial⟩, rfl, rfl, rfl, rfl, rfl, rfl, trivial⟩
      · have h8' : x' ≠ x := fun e => by
          replace h8 : txEq x' x = false := h8
          rw [txEq_iff.2 e] at h8; cases h8
        conv => whnf
        refine hN hj _ _ [(912, 912), (320, 320), (288, 288), (64, 64), (48, 48), (0, 0)] E1 ?_ ?_
        · rw [hT, hu, h1, Option.toList, List.flatMap_append, List.flatMap_cons, List.flatMap_nil, List.append_nil, show edU x ⟨q.lo, x', n', r'⟩ = [] by unfold edU; rw [if_neg h8'], List.append_nil]
        exact ⟨rfl, ⟨hinc, rfl, rfl, rfl, rfl, rfl, rfl, rfl, rfl, rfl, trivial⟩, rfl, rfl, rfl, rfl, rfl, rfl, trivial⟩
  · have hj : j = l.length := by have := of_decide_eq_false h7; omega
    conv => whnf
    exact hE hj _
theorem fmQ_succ {W : List EdX} {i : Nat} {p : PrpX} (h : P[i]? = some p) : (P.take (i + 1)).flatMap (edQ x yes W) = (P.take i).flatMap (edQ x yes W) ++ edQ x yes W p := by
  rw [List.take_add_one, h, List.flatMap_append]
  simp
theorem p10_out {T : TreeX} (ha : AllR T.N l) {E1 : List EdX} (hl : P.length ≤ 200) (hb : ∀ p ∈ P, p.2.length ≤ 3200 ∧ ∀ r ∈ p.2, r.key.size ≤ 1048576 ∧ recOkB r = true) (hi0 : i ≤ P.length) (h1 : E1 = (P.take i).flatMap (edQ x yes ((undL l).flatMap (edU x)))) (h2 : E1.length ≤ 3400 * i)
    (hN : i < P.length → ∀ s h ρ E2, E2 = (P.take (i + 1)).flatMap (edQ x yes ((undL l).flatMap (edU x))) → E2.length ≤ 3400 * (i + 1) → Le ρ (zS1 P yes (i + 1)) (zH1 T.N P x E2) s h → K .normal s h) (hE : i = P.length → ∀ v, K (.exit 0) ((23, .lf (.bool false)) :: (23, .lf (.bool v)) :: zS1 P yes i) (zH1 T.N P x E1)) :
    evX tab zSS (cAt [2, 2, 1, 2, 3, 4] (body Tryz.f7)) (zS1 P yes i) (zH1 T.N P x E1) K := by
  conv => whnf
  refine br2 (fun h7 => ?_) (fun h7 => ?_)
  · have hi : i < P.length := by have := of_decide_eq_true h7; omega
    obtain ⟨⟨t, rs⟩, hq⟩ := getL hi
    obtain ⟨b1, b2⟩ := hb _ (List.mem_of_getElem? hq)
    replace b1 : rs.length ≤ 3200 := b1
    have hinc := incI hi (show P.length ≤ 9223372036854775807 by omega)
    have hT := fmQ_succ (x := x) (yes := yes) (W := (undL l).flatMap (edU x)) hq
    conv => whnf
    refine ⟨Int.natCast_nonneg _, ltI hq, ?_⟩
    conv => whnf
    refine ex2 _ (nthI hq) ?_
    conv => whnf
    refine br2 (fun h8 => ?_) (fun h8 => ?_)
    · have n1 : t ≠ x := fun e => by
        replace h8 : (!txEq t x) = true := h8
        rw [txEq_iff.2 e] at h8; cases h8
      conv => whnf
      refine hN hi _ _ [(320, 320), (288, 288), (64, 64), (48, 48), (0, 0)] E1 (by rw [hT, show edQ x yes ((undL l).flatMap (edU x)) (t, rs) = [] by unfold edQ; rw [if_neg n1], h1]; simp) (by omega) ?_
      exact ⟨rfl, ⟨hinc, rfl, rfl, rfl, rfl, rfl, rfl, trivial⟩, rfl, rfl, rfl, rfl, rfl, trivial⟩
    have e1 : t = x := by
      replace h8 : (!txEq t x) = false := h8
      rw [Bool.not_eq_false'] at h8
      exact txEq_iff.1 h8
    have hed : edQ x yes ((undL l).flatMap (edU x)) (t, rs) = (if yes = true then rs.filterMap datE else []) ++ (undL l).flatMap (edU x) := by
      unfold edQ
      rw [if_pos e1]
      unfold edP
      congr 1
      cases yes with
      | true => rw [if_pos ⟨e1, rfl⟩, if_pos rfl]
      | false => rw [if_neg fun e => (by cases e.2)]; rfl
    conv => whnf
    intro _
    conv => whnf
    refine ⟨fun z s h => ∃ (j : Nat) (E2 : List EdX), j ≤ rs.length ∧ E2 = E1 ++ (if yes = true then (rs.take j).filterMap datE else []) ∧ z = rs.length - j ∧ s = zS2 P yes i rs j ∧ h = zH2 T.N P x rs E2, rs.length, [(400, 400), (320, 320), (288, 288), (64, 64), (48, 48), (0, 0)], zS2 P yes i rs 0, zH2 T.N P x rs E1, ⟨rfl, ⟨rfl, rfl, rfl, rfl, rfl, rfl, rfl, rfl, rfl, rfl, trivial⟩, rfl, rfl, rfl, rfl, rfl, rfl, trivial⟩, ⟨0, E1, by omega, by simp, by omega, rfl, rfl⟩, ?_⟩
    rintro z _ _ ⟨j, E2, g1, g2, rfl, rfl, rfl⟩
    refine p10_in b2 b1 (by omega) g1 g2 (fun hj s h ρ E3 q1 hle => ⟨rs.length - (j + 1), ρ, _, _, by omega, hle, j + 1, E3, hj, q1, rfl, rfl, rfl⟩) (fun hj v => ?_)
    subst hj
    rw [List.take_length] at g2
    have hE2 : E2.length ≤ 3400 * i + 3200 := by
      rw [g2, List.length_append]
      have := List.length_filterMap_le datE rs
      split
      · omega
      · simp; omega
    conv => whnf
    refine ⟨T, rfl, ?_⟩
    rintro _ _ ⟨rfl, l', rfl, ha'⟩
    conv => whnf
    obtain rfl := AllR.uniq ha ha'
    intro _
    conv => whnf
    refine ⟨fun z s h => ∃ (j : Nat) (E3 : List EdX), j ≤ l.length ∧ E3 = E2 ++ (undL (l.take j)).flatMap (edU x) ∧ z = l.length - j ∧ s = zS3 P yes i l j ∧ h = zH3 T.N P x l E3, l.length, [(912, 912), (320, 320), (288, 288), (64, 64), (48, 48), (0, 0)], zS3 P yes i l 0, zH3 T.N P x l E2, ⟨rfl, ⟨rfl, rfl, rfl, rfl, rfl, rfl, rfl, rfl, rfl, rfl, trivial⟩, rfl, rfl, rfl, rfl, rfl, rfl, trivial⟩, ⟨0, E2, by omega, by rw [List.take_zero]; simp [undL], by omega, rfl, rfl⟩, ?_⟩
    rintro z _ _ ⟨j, E3, q1, q2, rfl, rfl, rfl⟩
    refine p10_un ha.okk (by omega) q1 q2 (fun hj s h ρ E4 w1 hle => ⟨l.length - (j + 1), ρ, _, _, by omega, hle, j + 1, E4, hj, w1, rfl, rfl, rfl⟩) (fun hj v => ?_)
    subst hj
    rw [List.take_length] at q2
    conv => whnf
    refine hN hi _ _ [(320, 320), (288, 288), (64, 64), (48, 48), (0, 0)] E3 (by rw [hT, hed, q2, g2, h1]; simp) (by
      rw [q2, List.length_append]
      have h3 := edU_len (x := x) (undL l)
      have h4 := undL_len l
      have h5 := ha.okk.len
      omega) ?_
    exact ⟨rfl, ⟨hinc, rfl, rfl, rfl, rfl, rfl, rfl, trivial⟩, rfl, rfl, rfl, rfl, rfl, trivial⟩
  · have hi : i = P.length := by have := of_decide_eq_false h7; omega
    conv => whnf
    exact hE hi _
end
theorem ev_sEndEdits : ∀ x, evFnX tab [(1000002, cGh), (29, cTreeAll), (30, cRead8), (16, cPrepsM)] cEnd Tryz.f7 (body Tryz.f7) x := by
  rintro ⟨⟨N, f, hf, hN, hp⟩, ⟨a, b, c⟩, yes⟩
  conv => whnf
  refine ⟨[.row 288], ?_⟩
  conv => whnf
  refine ⟨EdX, EdX.ds, [], fun _ => rfl, rfl, ?_⟩
  conv => whnf
  refine ⟨⟨N, f, hf, hN, hp⟩, rfl, ?_⟩
  rintro _ _ ⟨rfl, P, rfl, l, ha, hP⟩
  conv => whnf
  intro _
  conv => whnf
  have hs := PrepsT.small ⟨l, ha, hP⟩
  have hb := prp_keys hP
  refine ⟨fun z s h => ∃ (i : Nat) (E1 : List EdX), i ≤ P.length ∧ E1 = (P.take i).flatMap (edQ ⟨a, b, c⟩ yes ((undL l).flatMap (edU ⟨a, b, c⟩))) ∧ E1.length ≤ 3400 * i ∧ z = P.length - i ∧ s = zS1 P yes i ∧ h = zH1 N P ⟨a, b, c⟩ E1, P.length, [(320, 320), (288, 288), (64, 64), (48, 48), (0, 0)], zS1 P yes 0, zH1 N P ⟨a, b, c⟩ [], ⟨rfl, ⟨rfl, rfl, rfl, rfl, rfl, rfl, rfl, trivial⟩, rfl, rfl, rfl, rfl, rfl, trivial⟩, ⟨0, [], by omega, by simp, by simp, by omega, rfl, rfl⟩, ?_⟩
  rintro z _ _ ⟨i, E1, g1, g2, g3, rfl, rfl, rfl⟩
  refine p10_out (T := ⟨N, f, hf, hN, hp⟩) ha hs.1 (fun p hp => ⟨hs.2 p hp, hb p hp⟩) g1 g2 g3 (fun hi s h ρ E2 q1 q2 hle => ⟨P.length - (i + 1), ρ, _, _, by omega, hle, i + 1, E2, hi, q1, q2, rfl, rfl, rfl⟩) (fun hi v => ?_)
  subst hi
  rw [List.take_length] at g2
  conv => whnf
  exact ⟨⟨rfl, E1, rfl, l, P, ha, hP, by rw [g2, edQ_preps hP]⟩⟩
theorem sEndEdits_ok : FnOk Tryz.prog 7 cEnd := fnOk_of fun x => fnX_at tab_ok (SOk.cons gh_ok (SOk.cons sTreeAll_ok (SOk.cons sRead8_ok (SOk.cons sPrepsM_ok SOk.nil)))) mixed (fn := Tryz.f7) (code := body Tryz.f7) ⟨Tryz.func7, rfl, by kernel_rfl, by kernel_rfl, by kernel_rfl, by kernel_rfl⟩ (ev_sEndEdits x)
end Go.Vm
namespace Go.Vm
open Go.Proofs
set_option maxRecDepth 100000
set_option linter.unusedVariables false
set_option linter.unusedSimpArgs false
set_option maxHeartbeats 4000000

theorem fmB_len {α β : Type} {f : α → List β} {b : Nat} : ∀ l : List α, (∀ n ∈ l, (f n).length ≤ b) → (l.flatMap f).length ≤ b * l.length
  | [], _ => by simp
  | x :: l, h => by
    have := fmB_len l fun n hn => h n (by simp [hn])
    have := h x (by simp)
    simp only [List.flatMap_cons, List.length_append, List.length_cons, Nat.mul_add]
    omega
theorem EndR.small {N : List NodeX} {x : TxX} {yes : Bool} {E : List EdX} (h : EndR N x yes E) : E.length ≤ 1048576 := by
  obtain ⟨l, P, ha, hP, rfl⟩ := h
  have hs := PrepsT.small ⟨l, ha, hP⟩
  have h1 := edU_len (x := x) (undL l)
  have h2 := undL_len l
  have h3 := ha.okk.len
  have h4 := fmB_len (f := edP x yes) (b := 3200) P fun p hp => by
    unfold edP
    split
    · exact Nat.le_trans (List.length_filterMap_le _ _) (hs.2 p hp)
    · simp
  have h5 := hs.1
  rw [List.length_append]
  omega
structure EndZ where
  N : List NodeX
  x : TxX
  yes : Bool
  hN : nodesB0 N
theorem ev_lawEndEdits : ∀ x, evFnX tab [(6, (cSz treeDs nodesB0 nodesB)), (8, (pureC NodesY [(.rd, true)] [true] (fun x => [treeDs x.l]) (fun x => [treeDs x.l]))), (9, (cCopy TxX.ds)), (7, cEnd), (10, cEnd), (11, (cEqS 3 EdX.ds)), (12, (cEq treeDs)), (13, (cMarkN true)), (14, (cMarkS 3 EdX.ds markE 3)), (15, (cHeldS 3 EdX.ds markE 3))] (pureC EndZ [(.rd, true), (.rd, true), (.rd, false)] [false] (fun z => [treeDs z.N, z.x.ds, [.lf (.bool z.yes)]]) (fun _ => [[.lf (.bool true)]])) Tryz.f3 (body Tryz.f3) x := by
  rintro ⟨N, x, yes, hN⟩
  obtain ⟨xa, xb, xc⟩ := x
  conv => whnf
  refine ⟨⟨N, 1048576, by omega, by omega, hN⟩, rfl, ?_⟩
  rintro _ _ ⟨rfl, q, rfl, k1, k2, k3⟩
  conv => whnf
  replace k2 : q ≤ 1048576 := k2
  refine br2 (fun h3 => ?_) (fun h3 => ?_)
  · conv => whnf
    exact ⟨⟨rfl, rfl⟩⟩
  have h3' := of_decide_eq_false h3
  obtain ⟨hl, hb⟩ := k3 (by omega)
  replace hl : N.length ≤ 1048576 := hl
  replace hb : ∀ n ∈ N, nodeB n := hb
  have hp : ∀ n ∈ N, n.ps.length ≤ 1048576 := fun n hn => (hb n hn).1
  conv => whnf
  refine ⟨⟨N, hl, hb⟩, rfl, ?_⟩
  rintro _ _ ⟨rfl, rfl⟩
  conv => whnf
  repeat ((first | refine rc_i rfl ?_ | refine rc_i (fun _ => rfl) ?_); conv => whnf)
  refine ⟨(⟨xa, xb, xc⟩ : TxX), rfl, ?_⟩
  rintro _ _ ⟨rfl, rfl⟩
  conv => whnf
  repeat ((first | refine rc_i rfl ?_ | refine rc_i (fun _ => rfl) ?_); conv => whnf)
  refine ⟨(⟨N, N.length, Nat.le_refl _, hl, hp⟩, ⟨xa, xb, xc⟩, yes), rfl, ?_⟩
  rintro _ _ ⟨rfl, E0, rfl, r1⟩
  conv => whnf
  repeat ((first | refine rc_i rfl ?_ | refine rc_i (fun _ => rfl) ?_); conv => whnf)
  have hE := r1.small
  have hN0 : (!eqX N N) = false := by rw [eqX_refl]; rfl
  have hE0 : (!eqX E0 E0) = false := by rw [eqX_refl]; rfl
  have hW := nodesW_le hb
  have hW2 := nodesW_pos N
  refine ⟨⟨N, hl, hb⟩, rfl, ?_⟩
  rintro _ _ ⟨rfl, rfl⟩
  conv => whnf
  repeat ((first | refine rc_i rfl ?_ | refine rc_i (fun _ => rfl) ?_); conv => whnf)
  refine ⟨(⟨xa, xb, xc⟩ : TxX), rfl, ?_⟩
  rintro _ _ ⟨rfl, rfl⟩
  conv => whnf
  repeat ((first | refine rc_i rfl ?_ | refine rc_i (fun _ => rfl) ?_); conv => whnf)
  refine ⟨(⟨N, N.length, Nat.le_refl _, hl, hp⟩, ⟨xa, xb, xc⟩, yes), rfl, ?_⟩
  rintro _ _ ⟨rfl, E1, rfl, r2⟩
  conv => whnf
  repeat ((first | refine rc_i rfl ?_ | refine rc_i (fun _ => rfl) ?_); conv => whnf)
  obtain rfl := EndR.same r1 r2
  clear r2
  refine ⟨(E0, E0), rfl, ?_⟩
  rintro _ _ ⟨rfl, rfl⟩
  conv => whnf
  refine br2 (fun h4 => ?_) (fun h4 => ?_)
  · exact absurd (hE0.symm.trans h4) (by simp)
  conv => whnf
  refine ⟨⟨N, hl, hb⟩, rfl, ?_⟩
  rintro _ _ ⟨rfl, rfl⟩
  conv => whnf
  repeat ((first | refine rc_i rfl ?_ | refine rc_i (fun _ => rfl) ?_); conv => whnf)
  refine ⟨(N, N), rfl, ?_⟩
  rintro _ _ ⟨rfl, rfl⟩
  conv => whnf
  repeat ((first | refine rc_i rfl ?_ | refine rc_i (fun _ => rfl) ?_); conv => whnf)
  refine br2 (fun h6 => ?_) (fun h6 => ?_)
  · exact absurd (hN0.symm.trans h6) (by simp)
  conv => whnf
  refine ⟨⟨N, 1, by omega, by omega, hl, hb⟩, rfl, ?_⟩
  rintro _ _ ⟨rfl, rfl⟩
  conv => whnf
  refine br2 (fun h7 => ?_) (fun h7 => ?_)
  · exfalso
    have : 1 + nodesW N < 0 := of_decide_eq_true h7
    omega
  conv => whnf
  refine ⟨(E0, E0), rfl, ?_⟩
  rintro _ _ ⟨rfl, rfl⟩
  conv => whnf
  refine br2 (fun h4 => ?_) (fun h4 => ?_)
  · exact absurd (hE0.symm.trans h4) (by simp)
  conv => whnf
  refine ⟨⟨⟨E0, 1, by omega, by omega⟩, hE⟩, rfl, ?_⟩
  rintro _ _ ⟨rfl, rfl⟩
  conv => whnf
  refine ⟨⟨⟨E0.length, 1, by omega, by omega⟩, hE⟩, rfl, ?_⟩
  rintro _ _ ⟨rfl, rfl⟩
  conv => whnf
  refine br2 (fun h7 => ?_) (fun h7 => ?_)
  · exfalso
    replace h7 : ((1 + 3 * (E0.length : Int)) != (1 + 3 * (E0.length : Int))) = true := h7
    simp at h7
  conv => whnf
  refine ⟨⟨N, hl, hb⟩, rfl, ?_⟩
  rintro _ _ ⟨rfl, rfl⟩
  conv => whnf
  repeat ((first | refine rc_i rfl ?_ | refine rc_i (fun _ => rfl) ?_); conv => whnf)
  refine ⟨(⟨xa, xb, xc⟩ : TxX), rfl, ?_⟩
  rintro _ _ ⟨rfl, rfl⟩
  conv => whnf
  repeat ((first | refine rc_i rfl ?_ | refine rc_i (fun _ => rfl) ?_); conv => whnf)
  refine ⟨(⟨N, N.length, Nat.le_refl _, hl, hp⟩, ⟨xa, xb, xc⟩, yes), rfl, ?_⟩
  rintro _ _ ⟨rfl, E1, rfl, r2⟩
  conv => whnf
  repeat ((first | refine rc_i rfl ?_ | refine rc_i (fun _ => rfl) ?_); conv => whnf)
  obtain rfl := EndR.same r1 r2
  clear r2
  refine ⟨(E0, E0), rfl, ?_⟩
  rintro _ _ ⟨rfl, rfl⟩
  conv => whnf
  refine br2 (fun h4 => ?_) (fun h4 => ?_)
  · exact absurd (hE0.symm.trans h4) (by simp)
  conv => whnf
  refine ⟨⟨⟨E0.length, 1, by omega, by omega⟩, hE⟩, rfl, ?_⟩
  rintro _ _ ⟨rfl, rfl⟩
  conv => whnf
  refine br2 (fun h7 => ?_) (fun h7 => ?_)
  · exfalso
    replace h7 : ((1 + 3 * (E0.length : Int)) != (1 + 3 * (E0.length : Int))) = true := h7
    simp at h7
  conv => whnf
  exact ⟨⟨rfl, rfl⟩⟩
theorem lawEndEdits_ok : FnOk Tryz.prog 3 (pureC EndZ [(.rd, true), (.rd, true), (.rd, false)] [false] (fun z => [treeDs z.N, z.x.ds, [.lf (.bool z.yes)]]) (fun _ => [[.lf (.bool true)]])) := fnOk_of fun x => fnX_at tab_ok (SOk.cons szTree_ok (SOk.cons toTree_ok (SOk.cons toTx_ok (SOk.cons sEndEdits_ok (SOk.cons iEndEdits_ok (SOk.cons eqEditS_ok (SOk.cons eqTree_ok (SOk.cons markTree_ok (SOk.cons markEditS_ok (SOk.cons heldEditS_ok SOk.nil)))))))))) mixed (fn := Tryz.f3) (code := body Tryz.f3) ⟨Tryz.func3, rfl, by kernel_rfl, by kernel_rfl, by kernel_rfl, by kernel_rfl⟩ (ev_lawEndEdits x)
end Go.Vm
