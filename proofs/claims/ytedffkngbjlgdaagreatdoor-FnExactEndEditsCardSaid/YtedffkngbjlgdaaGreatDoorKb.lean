/- Contracts: how full and how deep a tree is; a tree read out of its nodes, as the specification does it. -/
import Derived.Test.YtedffkngbjlgdaaGreatDoorKa
import Derived.WalkKit
import Derived.Lib.Walk
import Derived.Lib.SliceRun
import Derived.Lib.Overlaps
import Derived.Lib.AppendZerosOnto
import Derived.Laws.Externs
import Derived.Laws.IdiomCopy
import Derived.Shelf.RegionOpenPlain
import Derived.Deep.LoopGhost
import Derived.Deep.RegionLaw
import Derived.Lib.SlicesDelete
import Derived.Sort.WalkB12
namespace Go.Vm
open Go.Proofs
set_option maxRecDepth 100000
set_option linter.unusedVariables false
set_option linter.unusedSimpArgs false

theorem Lev.deep : ∀ {d : Nat} {x : Tw}, Lev d x → x.deep = d := by
  intro d x h
  induction h with
  | leaf => simp [Tw.deep, Tw.deeps]
  | node h1 h3 ih =>
    rename_i d ps ks
    have key : ∀ l : List Tw, l ≠ [] → (∀ k ∈ l, k.deep = d) → Tw.deeps l = d := by
      intro l
      induction l with
      | nil => intro h; exact absurd rfl h
      | cons k l ihl =>
        intro _ hk
        have h4 := hk k (by simp)
        simp only [Tw.deeps]
        cases l with
        | nil => simp [Tw.deeps, h4]
        | cons q r =>
          have := ihl (by simp) (fun z hz => hk z (by simp [hz]))
          rw [this, h4]; simp
    simp only [Tw.deep]
    rw [key ks h1 ih]; omega
structure SubX where
  n : Nat
  x : Tw
  hd : x.deep ≤ n
  hn : n ≤ 1000
def cSDeep : Con := relC SubX [(.rd, true)] [false] (fun t => [subE t.n t.x]) (fun t r => ∃ v : Int, r = [[.lf (.int .i64 v)]] ∧ v ≤ t.x.deep ∧ (0 ≤ v → Lev t.x.deep t.x ∧ v = t.x.deep) ∧ (v < 0 → ∀ d, ¬ Lev d t.x))
theorem mk_deep {ps : List RngX} {ks : List Tw} : (Tw.mk ps ks).deep = 1 + Tw.deeps ks := rfl
theorem ev_sDeep : ∀ n x, (fun t => t.x.deep) x = n → evFnX tab [(113, cSDeep.below (fun t => t.x.deep) n)] cSDeep Tryz.f113 (body Tryz.f113) x := by
  rintro M ⟨n, ⟨ps, ks⟩, hd, hn⟩ rfl
  replace hd : 1 + Tw.deeps ks ≤ n := hd
  obtain ⟨n, rfl⟩ : ∃ m, n = m + 1 := ⟨n - 1, by omega⟩
  conv => whnf
  refine br2 (fun h1 => ?_) (fun h1 => ?_)
  · obtain rfl : ks = [] := by cases ks with | nil => rfl | cons k r => cases h1
    conv => whnf
    exact ⟨⟨rfl, 1, rfl, by show (1 : Int) ≤ ((1 + 0 : Nat) : Int); omega, fun _ => ⟨.leaf, rfl⟩, fun h => by omega⟩⟩
  have hne : ks ≠ [] := by rintro rfl; cases h1
  have hlen : 0 < ks.length := List.length_pos_iff.2 hne
  conv => whnf
  intro hkl
  replace hkl : ks.length ≤ 9223372036854775807 := hkl
  conv => whnf
  let S0 : Nat → Nat → Sl := fun i dd => [(11, .lf (.int .i64 i)), (10, .lf (.int .i64 ks.length)), (1, .pt 16 0 0), (3, .lf (.int .i64 dd))]
  let H0 : Hp := [(16, some (.arr true 3 [[.lf (.bool ks.isEmpty), .sl 0 none, .sl 1 none]])), (0, some (.row .lent 2 RngX.ds ps)), (1, some (.row .lent 3 (subE n) ks))]
  refine ⟨fun m s h => ∃ i dd : Nat, i ≤ ks.length ∧ dd ≤ 1000 ∧ (i = 0 → dd = 0) ∧ (0 < i → ∃ e, dd = e + 1 ∧ ∀ k ∈ ks.take i, Lev e k) ∧ m = ks.length - i ∧ s = S0 i dd ∧ h = H0, ks.length, [(16, 16), (0, 0), (1, 1)], S0 0 0, H0,
    ⟨rfl, ⟨rfl, rfl, rfl, rfl, trivial⟩, rfl, rfl, rfl, trivial⟩, ⟨0, 0, by omega, by omega, fun _ => rfl, fun h => absurd h (by omega), rfl, rfl, rfl⟩, ?_⟩
  rintro m _ _ ⟨i, dd, g1, g2, g3, g4, rfl, rfl, rfl⟩
  conv => whnf
  refine br2 (fun h5 => ?_) (fun h5 => ?_)
  · have hi : i < ks.length := by have := of_decide_eq_true h5; omega
    obtain ⟨k, hk⟩ := getL hi
    have hkm := List.mem_of_getElem? hk
    have hkd := deeps_mem hkm
    have hkp := k.deep_pos
    have no : (∀ e, Lev e k → 0 < i → ∀ q ∈ ks.take i, Lev e q → False) → (0 < i ∨ ∀ e, ¬ Lev e k) → ∀ d, ¬ Lev d (.mk ps ks) := by
      intro a b d hl
      cases hl with
      | leaf => exact hne rfl
      | node q1 q3 =>
        rcases b with b | b
        · obtain ⟨q, hq⟩ := getL (l := ks) (j := 0) hlen
          have : q ∈ ks.take i := by
            have : (ks.take i)[0]? = some q := by rw [List.getElem?_take, if_pos b]; exact hq
            exact List.mem_of_getElem? this
          exact a _ (q3 k hkm) b q this (q3 q (List.mem_of_getElem? hq))
        · exact b _ (q3 k hkm)
    obtain ⟨us, is⟩ := k
    replace hkd : (Tw.mk us is).deep ≤ n := by omega
    obtain ⟨n', rfl⟩ : ∃ q, n = q + 1 := ⟨n - 1, by omega⟩
    conv => whnf
    refine ⟨Int.natCast_nonneg _, ltI hk, ?_⟩
    conv => whnf
    refine ex2 _ (nthI hk) ?_
    conv => whnf
    refine ⟨⟨⟨n' + 1, .mk us is, hkd, by omega⟩, by show (Tw.mk us is).deep < 1 + Tw.deeps ks; have := deeps_mem hkm; omega⟩, rfl, ?_⟩
    rintro _ _ ⟨rfl, v, rfl, v1, v2, v3⟩
    replace v1 : v ≤ ((Tw.mk us is).deep : Int) := v1
    replace v2 : 0 ≤ v → Lev (Tw.mk us is).deep (Tw.mk us is) ∧ v = (Tw.mk us is).deep := v2
    replace v3 : v < 0 → ∀ d, ¬ Lev d (Tw.mk us is) := v3
    have bad : ∀ {d : Nat}, (∀ e, ¬ Lev e (Tw.mk ps ks)) → ∃ w : Int, [[D.lf (.int .i64 (-1))]] = [[D.lf (.int .i64 w)]] ∧ w ≤ ((Tw.mk ps ks).deep : Int) ∧ (0 ≤ w → Lev (Tw.mk ps ks).deep (Tw.mk ps ks) ∧ w = ((Tw.mk ps ks).deep : Int)) ∧ (w < 0 → ∀ d, ¬ Lev d (Tw.mk ps ks)) := fun h =>
      ⟨-1, rfl, by omega, fun h => by omega, fun _ => h⟩
    conv => whnf
    refine br2 (fun h6 => ?_) (fun h6 => ?_)
    · have h6' : v < 0 := of_decide_eq_true h6
      conv => whnf
      exact ⟨⟨rfl, bad (d := 0) (no (fun e h => absurd h (v3 h6' e)) (.inr (v3 h6')))⟩⟩
    have h6' : 0 ≤ v := by have h7 : ¬ v < 0 := of_decide_eq_false h6; omega
    obtain ⟨hlv, rfl⟩ := v2 h6'
    have hwd : IntKind.i64.wrap (((Tw.mk us is).deep : Int) + 1) = (((Tw.mk us is).deep + 1 : Nat) : Int) := by rw [w64 (by omega) (by omega)]; omega
    have step : ∀ {s' : Sl} {h' : Hp}, (∀ q ∈ ks.take i, Lev (Tw.mk us is).deep q) → Le [(16, 16), (0, 0), (1, 1)] (S0 (i + 1) ((Tw.mk us is).deep + 1)) H0 s' h' →
        ∃ m' ρ s'' h'', m' < ks.length - i ∧ Le ρ s'' h'' s' h' ∧ ∃ i dd : Nat, i ≤ ks.length ∧ dd ≤ 1000 ∧ (i = 0 → dd = 0) ∧ (0 < i → ∃ e, dd = e + 1 ∧ ∀ k ∈ ks.take i, Lev e k) ∧ m' = ks.length - i ∧ s'' = S0 i dd ∧ h'' = H0 := fun h hle =>
      ⟨ks.length - (i + 1), _, _, _, by omega, hle, i + 1, (Tw.mk us is).deep + 1, by omega, by omega, fun h => by omega, fun _ => ⟨_, rfl, fun q hq => by
        rw [List.take_add_one, hk] at hq
        rcases List.mem_append.1 hq with hq | hq
        · exact h q hq
        · simp at hq; subst hq; exact hlv⟩, rfl, rfl, rfl⟩
    have hw := incI hi hkl
    have hl1 : Le [(16, 16), (0, 0), (1, 1)] (S0 (i + 1) ((Tw.mk us is).deep + 1)) H0 (S0 (i + 1) ((Tw.mk us is).deep + 1)) H0 := ⟨rfl, ⟨rfl, rfl, rfl, rfl, trivial⟩, rfl, rfl, rfl, trivial⟩
    conv => whnf
    refine br2 (fun h7 => ?_) (fun h7 => ?_)
    · have h7' : 0 < i := by have := of_decide_eq_true h7; omega
      obtain ⟨e, rfl, g4'⟩ := g4 h7'
      conv => whnf
      refine br2 (fun h8 => ?_) (fun h8 => ?_)
      · have h8' : (Tw.mk us is).deep ≠ e := by
          replace h8 : (IntKind.i64.wrap (((Tw.mk us is).deep : Int) + 1) != ((e + 1 : Nat) : Int)) = true := h8
          rw [hwd] at h8
          simp at h8; omega
        conv => whnf
        refine ⟨⟨rfl, bad (d := 0) (no (fun e' h1 _ q hq h2 => ?_) (.inl h7'))⟩⟩
        have a1 := h1.deep
        have a2 := (g4' q hq).deep
        have a3 := h2.deep
        omega
      · have h8' : (Tw.mk us is).deep = e := by
          replace h8 : (IntKind.i64.wrap (((Tw.mk us is).deep : Int) + 1) != ((e + 1 : Nat) : Int)) = false := h8
          rw [hwd] at h8
          simp at h8; omega
        conv => whnf
        refine step (by rw [h8']; exact g4') ⟨rfl, ⟨hw, rfl, rfl, ?_, trivial⟩, rfl, rfl, rfl, trivial⟩
        show V.lf (.int .i64 (IntKind.i64.wrap (((Tw.mk us is).deep : Int) + 1))) = _
        rw [hwd]
    · have h7' : i = 0 := by have := of_decide_eq_false h7; omega
      subst h7'
      conv => whnf
      refine step (fun q hq => by simp at hq) ⟨rfl, ⟨hw, rfl, rfl, ?_, trivial⟩, rfl, rfl, rfl, trivial⟩
      show V.lf (.int .i64 (IntKind.i64.wrap (((Tw.mk us is).deep : Int) + 1))) = _
      rw [hwd]
  · have hi : i = ks.length := by have := of_decide_eq_false h5; omega
    subst hi
    obtain ⟨e, rfl, g5⟩ := g4 hlen
    rw [List.take_length] at g5
    have hL : Lev (e + 1) (.mk ps ks) := .node hne g5
    have hdp := hL.deep
    conv => whnf
    refine ⟨⟨rfl, _, rfl, ?_, fun _ => ⟨?_, ?_⟩, fun h => ?_⟩⟩
    · show ((e + 1 : Nat) : Int) ≤ ((Tw.mk ps ks).deep : Int); rw [hdp]; omega
    · show Lev (Tw.mk ps ks).deep (Tw.mk ps ks); rw [hdp]; exact hL
    · show ((e + 1 : Nat) : Int) = ((Tw.mk ps ks).deep : Int); rw [hdp]
    · omega
theorem sDeep_ok : FnOk Tryz.prog 113 cSDeep := fn_rec (fun t => t.x.deep) fun n hs x hx => fnX_at tab_ok (SOk.cons hs (SOk.nil)) mixed (fn := Tryz.f113) (code := body Tryz.f113) ⟨Tryz.func113, rfl, by kernel_rfl, by kernel_rfl, by kernel_rfl, by kernel_rfl⟩ (ev_sDeep n x hx)
structure FullX where
  t : SubX
  root : Bool
theorem ev_sFull : ∀ n x, (fun f => f.t.x.deep) x = n → evFnX tab [(112, (pureC FullX [(.rd, true), (.rd, false)] [false] (fun f => [subE f.t.n f.t.x, [.lf (.bool f.root)]]) (fun f => [[.lf (.bool (Tw.full f.root f.t.x))]])).below (fun f => f.t.x.deep) n)] (pureC FullX [(.rd, true), (.rd, false)] [false] (fun f => [subE f.t.n f.t.x, [.lf (.bool f.root)]]) (fun f => [[.lf (.bool (Tw.full f.root f.t.x))]])) Tryz.f112 (body Tryz.f112) x := by
  rintro M ⟨⟨n, ⟨ps, ks⟩, hd, hn⟩, root⟩ rfl
  replace hd : 1 + Tw.deeps ks ≤ n := hd
  obtain ⟨n, rfl⟩ : ∃ m, n = m + 1 := ⟨n - 1, by omega⟩
  conv => whnf
  refine br2 (fun h1 => ?_) (fun h1 => ?_)
  · obtain rfl : ks = [] := by cases ks with | nil => rfl | cons k r => cases h1
    have fin : ∀ b : Bool, b = (decide (ps.length ≤ 4) && (decide (2 ≤ ps.length) || root && decide (ps.length = 1))) → [[D.lf (.bool b)]] = [[D.lf (.bool (Tw.full root (.mk ps [])))]] := fun b h => by rw [full_leaf, h]
    conv => whnf
    intro _
    conv => whnf
    refine br2 (fun h2 => ?_) (fun h2 => ?_)
    · have h2' : ps.length ≤ 4 := by
        replace h2 : decide ((ps.length : Int) ≤ 4) = true := h2
        have := of_decide_eq_true h2; omega
      conv => whnf
      intro _
      conv => whnf
      refine br2 (fun h3 => ?_) (fun h3 => ?_)
      · have h3' : 2 ≤ ps.length := by
          replace h3 : decide ((ps.length : Int) ≥ 2) = true := h3
          have := of_decide_eq_true h3; omega
        conv => whnf
        refine ⟨⟨rfl, fin _ ?_⟩⟩
        simp [h2', h3']
      · have h3' : ¬ 2 ≤ ps.length := by
          replace h3 : decide ((ps.length : Int) ≥ 2) = false := h3
          have := of_decide_eq_false h3; omega
        cases root with
        | true =>
          conv => whnf
          intro _
          conv => whnf
          refine ⟨⟨rfl, fin _ ?_⟩⟩
          show ((ps.length : Int) == 1) = _
          simp [h2', h3']
          rw [Bool.eq_iff_iff]; simp; omega
        | false =>
          conv => whnf
          refine ⟨⟨rfl, fin _ ?_⟩⟩
          simp [h2', h3']
    · have h2' : ¬ ps.length ≤ 4 := by
        replace h2 : decide ((ps.length : Int) ≤ 4) = false := h2
        have := of_decide_eq_false h2; omega
      conv => whnf
      refine ⟨⟨rfl, fin _ ?_⟩⟩
      simp [h2']
  have hne : ks ≠ [] := by rintro rfl; cases h1
  have hlen : 0 < ks.length := List.length_pos_iff.2 hne
  have fin : ∀ b : Bool, b = (decide (2 ≤ ks.length) && decide (ks.length ≤ 4) && decide (ps.length = 0) && Tw.fulls ks) → [[D.lf (.bool b)]] = [[D.lf (.bool (Tw.full root (.mk ps ks)))]] := fun b h => by rw [full_node hne, h]
  conv => whnf
  intro hkl
  replace hkl : ks.length ≤ 9223372036854775807 := hkl
  conv => whnf
  refine br2 (fun h2 => ?_) (fun h2 => ?_)
  · have h2' : ¬ 2 ≤ ks.length := by
      replace h2 : decide ((ks.length : Int) < 2) = true := h2
      have := of_decide_eq_true h2; omega
    conv => whnf
    refine ⟨⟨rfl, fin _ ?_⟩⟩
    simp [h2']
  have h2' : 2 ≤ ks.length := by
    replace h2 : decide ((ks.length : Int) < 2) = false := h2
    have := of_decide_eq_false h2; omega
  conv => whnf
  intro _
  conv => whnf
  refine br2 (fun h3 => ?_) (fun h3 => ?_)
  · have h3' : ¬ ks.length ≤ 4 := by
      replace h3 : decide ((ks.length : Int) > 4) = true := h3
      have := of_decide_eq_true h3; omega
    conv => whnf
    refine ⟨⟨rfl, fin _ ?_⟩⟩
    simp [h3']
  have h3' : ks.length ≤ 4 := by
    replace h3 : decide ((ks.length : Int) > 4) = false := h3
    have := of_decide_eq_false h3; omega
  conv => whnf
  intro _
  conv => whnf
  refine br2 (fun h4 => ?_) (fun h4 => ?_)
  · have h4' : ¬ ps.length = 0 := by
      replace h4 : decide ((ps.length : Int) > 0) = true := h4
      have := of_decide_eq_true h4; omega
    conv => whnf
    refine ⟨⟨rfl, fin _ ?_⟩⟩
    simp only [h4', decide_false, Bool.and_false, Bool.false_and]
  have h4' : ps.length = 0 := by
    replace h4 : decide ((ps.length : Int) > 0) = false := h4
    have := of_decide_eq_false h4; omega
  have fin2 : ∀ b : Bool, b = Tw.fulls ks → [[D.lf (.bool b)]] = [[D.lf (.bool (Tw.full root (.mk ps ks)))]] := fun b h => fin b (by simp [h2', h3', h4', h])
  conv => whnf
  intro _
  conv => whnf
  let S0 : Nat → Sl := fun i => [(46, .lf (.int .i64 i)), (45, .lf (.int .i64 ks.length)), (2, .pt 32 0 0)]
  let H0 : Hp := [(32, some (.arr true 3 [[.lf (.bool ks.isEmpty), .sl 0 none, .sl 1 none]])), (0, some (.row .lent 2 RngX.ds ps)), (1, some (.row .lent 3 (subE n) ks))]
  refine ⟨fun m s h => ∃ i : Nat, i ≤ ks.length ∧ (∀ k ∈ ks.take i, Tw.full false k = true) ∧ m = ks.length - i ∧ s = S0 i ∧ h = H0, ks.length, [(32, 32), (0, 0), (1, 1)], S0 0, H0,
    ⟨rfl, ⟨rfl, rfl, rfl, trivial⟩, rfl, rfl, rfl, trivial⟩, ⟨0, by omega, fun k h => by simp at h, rfl, rfl, rfl⟩, ?_⟩
  rintro m _ _ ⟨i, g1, g2, rfl, rfl, rfl⟩
  conv => whnf
  refine br2 (fun h5 => ?_) (fun h5 => ?_)
  · have hi : i < ks.length := by have := of_decide_eq_true h5; omega
    obtain ⟨k, hk⟩ := getL hi
    have hkm := List.mem_of_getElem? hk
    have hkd := deeps_mem hkm
    have hkp := k.deep_pos
    obtain ⟨us, is⟩ := k
    replace hkd : (Tw.mk us is).deep ≤ n := by omega
    obtain ⟨n', rfl⟩ : ∃ q, n = q + 1 := ⟨n - 1, by omega⟩
    conv => whnf
    refine ⟨Int.natCast_nonneg _, ltI hk, ?_⟩
    conv => whnf
    refine ex2 _ (nthI hk) ?_
    conv => whnf
    refine ⟨⟨⟨⟨n' + 1, .mk us is, hkd, by omega⟩, false⟩, by show (Tw.mk us is).deep < 1 + Tw.deeps ks; have := deeps_mem hkm; omega⟩, rfl, ?_⟩
    rintro _ _ ⟨rfl, rfl⟩
    conv => whnf
    refine br2 (fun h6 => ?_) (fun h6 => ?_)
    · have h6' : Tw.full false (.mk us is) = false := by
        replace h6 : (!Tw.full false (.mk us is)) = true := h6
        simpa using h6
      conv => whnf
      refine ⟨⟨rfl, fin2 _ ?_⟩⟩
      cases e : Tw.fulls ks with
      | false => rfl
      | true => rw [fulls_iff.1 e _ hkm] at h6'; cases h6'
    · have h6' : Tw.full false (.mk us is) = true := by
        replace h6 : (!Tw.full false (.mk us is)) = false := h6
        simpa using h6
      conv => whnf
      refine ⟨ks.length - (i + 1), [(32, 32), (0, 0), (1, 1)], S0 (i + 1), H0, by omega, ⟨rfl, ⟨incI hi hkl, rfl, rfl, trivial⟩, rfl, rfl, rfl, trivial⟩, i + 1, by omega, fun q hq => ?_, rfl, rfl, rfl⟩
      rw [List.take_add_one, hk] at hq
      rcases List.mem_append.1 hq with hq | hq
      · exact g2 q hq
      · simp at hq; subst hq; exact h6'
  · have hi : i = ks.length := by have := of_decide_eq_false h5; omega
    subst hi
    rw [List.take_length] at g2
    conv => whnf
    exact ⟨⟨rfl, fin2 _ (fulls_iff.2 g2).symm⟩⟩
theorem sFull_ok : FnOk Tryz.prog 112 (pureC FullX [(.rd, true), (.rd, false)] [false] (fun f => [subE f.t.n f.t.x, [.lf (.bool f.root)]]) (fun f => [[.lf (.bool (Tw.full f.root f.t.x))]])) := fn_rec (fun f => f.t.x.deep) fun n hs x hx => fnX_at tab_ok (SOk.cons hs (SOk.nil)) mixed (fn := Tryz.f112) (code := body Tryz.f112) ⟨Tryz.func112, rfl, by kernel_rfl, by kernel_rfl, by kernel_rfl, by kernel_rfl⟩ (ev_sFull n x hx)
theorem Tw.len_sizes : ∀ l : List Tw, l.length ≤ Tw.sizes l
  | [] => Nat.le_refl _
  | k :: l => by simp only [Tw.sizes, List.length_cons]; have := Tw.len_sizes l; have := k.size_pos; omega
/-! Reading -/
structure ReadX where
  N : List NodeX
  at_ : Nat
  b : Nat
  deep : Int
  hN : N.length ≤ 1048576
  hp : ∀ n ∈ N, n.ps.length ≤ 1048576
  hb : deep + b = 13
  h0 : 0 ≤ deep
def optS (b : Nat) : Option Tw → List D
  | none => [.lf (.bool false), .row 2 RngX.ds [], .row 3 (subE 0) []]
  | some x => subE b x
structure ReadR (N : List NodeX) (a b : Nat) (o : Option Tw) (next : Int) (ok : Bool) : Prop where
  yes : ok = true → ∃ x, o = some x ∧ Fit false N a x ∧ x.deep ≤ b ∧ next = ((a + x.size : Nat) : Int)
  no : ok = false → o = none ∧ ∀ x, Fit false N a x → ¬ x.deep ≤ b
def cSRead : Con := relC ReadX [(.rd, true), (.rd, false), (.rd, false)] [true, false, false] (fun g => [[.row 3 NodeX.ds g.N], [.lf (.int .i64 g.at_)], [.lf (.int .i64 g.deep)]])
  (fun g r => ∃ o next ok, r = [optS g.b o, [.lf (.int .i64 next)], [.lf (.bool ok)]] ∧ ReadR g.N g.at_ g.b o next ok)
structure SubsTo (N : List NodeX) (a b : Nat) (n : NodeX) (l : List Tw) : Prop where
  fit : FitK false N (a + 1) l
  kids : n.kids.take l.length = kidsAt l (a + 1)
  deep : ∀ k ∈ l, k.deep ≤ b
theorem SubsTo.snoc {N : List NodeX} {a b : Nat} {n : NodeX} {l : List Tw} {k : Tw} (h : SubsTo N a b n l) (hk : n.kids[l.length]? = some (((a + 1 + Tw.sizes l : Nat)) : Int)) (hf : Fit false N (a + 1 + Tw.sizes l) k) (hd : k.deep ≤ b) : SubsTo N a b n (l ++ [k]) := by
  refine ⟨fitK_app.2 ⟨h.fit, fitK_one.2 hf⟩, ?_, fun q hq => ?_⟩
  · rw [List.length_append, List.length_singleton, List.take_add_one, h.kids, hk, kidsAt_app]; rfl
  · rcases List.mem_append.1 hq with hq | hq
    · exact h.deep q hq
    · simp at hq; subst hq; exact hd
theorem SubsTo.next {N : List NodeX} {a b : Nat} {n : NodeX} {l : List Tw} (h : SubsTo N a b n l) (hn : N[a]? = some n) (hl : l.length < n.kids.length) {x : Tw} (hf : Fit false N a x) (hd : x.deep ≤ b + 1) :
    ∃ k, n.kids[l.length]? = some ((a + 1 + Tw.sizes l : Nat) : Int) ∧ Fit false N (a + 1 + Tw.sizes l) k ∧ k.deep ≤ b := by
  obtain ⟨ps, ks⟩ := x
  simp only [Fit] at hf
  obtain ⟨⟨n', e1, e2, e3, e4⟩, h2⟩ := hf
  rw [hn] at e1; cases e1
  have hlen : n.kids.length = ks.length := by rw [e3, kidsAt_len]
  have hfr := h.fit.front h2 (by omega)
  obtain ⟨k, hk⟩ := getL (l := ks) (j := l.length) (by omega)
  have hkf := h2.get hk
  rw [← hfr] at hkf
  have := deeps_mem (List.mem_of_getElem? hk)
  rw [mk_deep] at hd
  exact ⟨k, by rw [e3, kidsAt_get _ _ _ (by omega), ← hfr], hkf, by omega⟩
theorem ev_sRead : ∀ n x, (fun g => g.b) x = n → evFnX tab [(120, cSRead.below (fun g => g.b) n), (1000006, cGh)] cSRead Tryz.f120 (body Tryz.f120) x := by
  rintro M ⟨N, a, b, deep, hN, hp, hb, h00⟩ rfl
  replace hN : N.length ≤ 1048576 := hN
  replace hp : ∀ n ∈ N, n.ps.length ≤ 1048576 := hp
  replace hb : deep + b = 13 := hb
  replace h00 : 0 ≤ deep := h00
  have zero : ∀ {P : Prop}, ReadR N a b none 0 false → P → P := fun _ h => h
  conv => whnf
  intro _
  conv => whnf
  have none0 : ∀ {P : Prop}, P → P := fun h => h
  refine br2 (fun h1 => ?_) (fun h1 => ?_)
  · have h1' : N.length ≤ a := by
      replace h1 : decide ((a : Int) ≥ (N.length : Int)) = true := h1
      have := of_decide_eq_true h1; omega
    conv => whnf
    refine ⟨2, RngX, RngX.ds, fun _ => rfl, ?_⟩
    conv => whnf
    refine ⟨3, Tw, subE 0, subE_len 0, ?_⟩
    conv => whnf
    refine ⟨⟨rfl, none, _, _, rfl, fun h => (by cases h), fun _ => ⟨rfl, fun x hf _ => ?_⟩⟩⟩
    have h3 : a + x.size ≤ N.length := hf.le
    have := x.size_pos
    omega
  have h1' : a < N.length := by
    replace h1 : decide ((a : Int) ≥ (N.length : Int)) = false := h1
    have := of_decide_eq_false h1; omega
  conv => whnf
  refine br2 (fun h2 => ?_) (fun h2 => ?_)
  · have h2' : 12 < deep := of_decide_eq_true h2
    conv => whnf
    refine ⟨2, RngX, RngX.ds, fun _ => rfl, ?_⟩
    conv => whnf
    refine ⟨3, Tw, subE 0, subE_len 0, ?_⟩
    conv => whnf
    refine ⟨⟨rfl, none, _, _, rfl, fun h => (by cases h), fun _ => ⟨rfl, fun x _ hd => ?_⟩⟩⟩
    have := x.deep_pos
    replace hd : x.deep ≤ b := hd
    omega
  have h2' : deep ≤ 12 := by
    have h3 : ¬ deep > 12 := of_decide_eq_false h2
    omega
  obtain ⟨b, rfl⟩ : ∃ q, b = q + 1 := ⟨b - 1, by omega⟩
  obtain ⟨⟨ps, keys, kids⟩, hn⟩ := getL h1'
  have hps : ps.length ≤ 1048576 := hp _ (List.mem_of_getElem? hn)
  conv => whnf
  refine ⟨Int.natCast_nonneg _, ltI hn, ?_⟩
  conv => whnf
  refine ex2 _ (nthI hn) ?_
  conv => whnf
  intro hkl
  replace hkl : kids.length ≤ 9223372036854775807 := hkl
  conv => whnf
  repeat ((first | refine rc_i rfl ?_ | refine rc_i (fun _ => rfl) ?_); conv => whnf)
  refine ⟨true, ?_⟩
  conv => whnf
  refine ⟨RngX, RngX.ds, [], fun _ => rfl, rfl, ?_⟩
  conv => whnf
  refine ⟨fun _ => rfl, ps, rfl, ?_, ?_⟩
  · show 0 + ps.length ≤ 4294967296; omega
  conv => whnf
  repeat ((first | refine rc_i rfl ?_ | refine rc_i (fun _ => rfl) ?_); conv => whnf)
  refine ⟨[.nlc 160 0 2 1000], ?_⟩
  conv => whnf
  refine ⟨3, Tw, subE b, subE_len b, ?_⟩
  conv => whnf
  intro _
  conv => whnf
  have hw : IntKind.i64.wrap ((a : Int) + 1) = ((a + 1 : Nat) : Int) := by rw [w64 (by omega) (by omega)]; omega
  have hwd : IntKind.i64.wrap (deep + 1) = deep + 1 := w64 (by omega) (by omega)
  let S0 : Nat → Nat → Sl := fun i nx => [(50, .lf (.int .i64 i)), (49, .lf (.int .i64 kids.length)), (48, .sl 562 none), (11, .lf (.int .i64 nx)), (10, .pt 160 0 0), (3, .pt 48 0 0), (6, .pt 96 0 0), (2, .lf (.int .i64 deep))]
  let H0 : List Tw → Hp := fun l => [(562, some (.row .lent 1 intE1 kids)), (160, some (.arr true 3 [[.lf (.bool ((kids.length : Int) == 0)), .sl 688 none, .sl 16000 none]])), (688, some (.row .own 2 RngX.ds ps)), (16000, some (.row .own 3 (subE b) l)),
    (48, some (.arr true 1 [[.sl 0 none]])), (0, some (.row .lent 3 NodeX.ds N)), (96, some (.arr true 3 [[.lf (.bool false), .lf (.slice none 0 0), .lf (.slice none 0 0)]]))]
  refine ⟨fun m s h => ∃ l : List Tw, l.length ≤ kids.length ∧ SubsTo N a b ⟨ps, keys, kids⟩ l ∧ m = kids.length - l.length ∧ s = S0 l.length (a + 1 + Tw.sizes l) ∧ h = H0 l, kids.length, [(562, 562), (160, 160), (688, 688), (16000, 16000), (48, 48), (0, 0), (96, 96)], S0 0 (a + 1), H0 [],
    ⟨rfl, ⟨rfl, rfl, rfl, ?_, rfl, rfl, rfl, rfl, trivial⟩, rfl, rfl, rfl, rfl, rfl, rfl, rfl, trivial⟩, ⟨[], Nat.zero_le _, ⟨trivial, rfl, fun k h => by simp at h⟩, rfl, rfl, rfl⟩, ?_⟩
  · show V.lf (.int .i64 (IntKind.i64.wrap ((a : Int) + 1))) = _
    rw [hw]
  rintro m _ _ ⟨l, g1, hK, rfl, rfl, rfl⟩
  conv => whnf
  refine br2 (fun h6 => ?_) (fun h6 => ?_)
  · have hi : l.length < kids.length := by have := of_decide_eq_true h6; omega
    obtain ⟨c, hc⟩ := getL hi
    have hfit : a + 1 + Tw.sizes l ≤ N.length := FitK.le l (a + 1) hK.fit (by omega)
    have fail : (∀ k, c = ((a + 1 + Tw.sizes l : Nat) : Int) → Fit false N (a + 1 + Tw.sizes l) k → k.deep ≤ b → False) → ReadR N a (b + 1) none 0 false := by
      intro hb
      refine ⟨fun h => (by cases h), fun _ => ⟨rfl, fun x hf hd => ?_⟩⟩
      obtain ⟨k, k1, k2, k3⟩ := hK.next hn hi hf hd
      replace k1 : kids[l.length]? = some ((a + 1 + Tw.sizes l : Nat) : Int) := k1
      rw [hc] at k1
      exact hb k (Option.some.inj k1) k2 k3
    conv => whnf
    refine ⟨Int.natCast_nonneg _, ltI hc, ?_⟩
    conv => whnf
    refine ex2 _ (nthI hc) ?_
    conv => whnf
    refine br2 (fun h7 => ?_) (fun h7 => ?_)
    · have h7' : c ≠ ((a + 1 + Tw.sizes l : Nat) : Int) := by
        replace h7 : (c != ((a + 1 + Tw.sizes l : Nat) : Int)) = true := h7
        simpa using h7
      conv => whnf
      refine ⟨2, RngX, RngX.ds, fun _ => rfl, ?_⟩
      conv => whnf
      refine ⟨3, Tw, subE 0, subE_len 0, ?_⟩
      conv => whnf
      exact ⟨⟨rfl, none, _, _, rfl, fail fun k h _ _ => h7' h⟩⟩
    have h7' : c = ((a + 1 + Tw.sizes l : Nat) : Int) := by
      replace h7 : (c != ((a + 1 + Tw.sizes l : Nat) : Int)) = false := h7
      simpa using h7
    subst h7'
    generalize hnx : a + 1 + Tw.sizes l = nx at *
    conv => whnf
    refine ⟨⟨⟨N, nx, b, IntKind.i64.wrap (deep + 1), hN, hp, by rw [hwd]; omega, by rw [hwd]; omega⟩, Nat.lt_succ_self b⟩, rfl, ?_⟩
    rintro _ _ ⟨rfl, o, next, ok, rfl, rr⟩
    replace rr : ReadR N nx b o next ok := rr
    cases ok with
    | false =>
      obtain ⟨rfl, rno⟩ := rr.no rfl
      conv => whnf
      refine ⟨2, RngX, RngX.ds, fun _ => rfl, ?_⟩
      conv => whnf
      refine ⟨3, Tw, subE 0, subE_len 0, ?_⟩
      conv => whnf
      exact ⟨⟨rfl, none, _, _, rfl, fail fun k _ k2 k3 => rno k k2 k3⟩⟩
    | true =>
    obtain ⟨⟨us, is⟩, rfl, hxf, hd, rfl⟩ := rr.yes rfl
    have hdp := (Tw.mk us is).deep_pos
    obtain ⟨b, rfl⟩ : ∃ q, b = q + 1 := ⟨b - 1, by omega⟩
    have hsz : a + 1 + Tw.sizes (l ++ [.mk us is]) = nx + (Tw.mk us is).size := by rw [Tw.sizes_app, ← hnx]; simp [Tw.sizes]; omega
    conv => whnf
    refine ⟨[.mk us is], rfl, ?_, ?_⟩
    · show l.length + 1 ≤ 4294967296
      have := Tw.len_sizes l
      omega
    conv => whnf
    refine ⟨kids.length - (l.length + 1), [(562, 562), (160, 160), (688, 688), (1184, 16000), (48, 48), (0, 0), (96, 96)], S0 (l.length + 1) (nx + (Tw.mk us is).size), H0 (l ++ [.mk us is]), by omega,
      ⟨rfl, ⟨incI hi hkl, rfl, rfl, rfl, rfl, rfl, rfl, rfl, trivial⟩, by rfl, by rfl, by rfl, by rfl, by rfl, by rfl, by rfl, trivial⟩, l ++ [.mk us is], by simp; omega, hK.snoc (by rw [hnx]; exact hc) (by rw [hnx]; exact hxf) hd, by simp, by rw [hsz]; simp, rfl⟩
  · have hi : l.length = kids.length := by have := of_decide_eq_false h6; omega
    have hfitl : Fit false N a (.mk ps l) := by
      simp only [Fit]
      refine ⟨⟨_, hn, rfl, ?_, fun h => by cases h⟩, hK.fit⟩
      have := hK.kids
      rw [hi, List.take_length] at this
      exact this
    have hdl : (Tw.mk ps l).deep ≤ b + 1 := by
      rw [mk_deep]
      have : ∀ q : List Tw, (∀ k ∈ q, k.deep ≤ b) → Tw.deeps q ≤ b := by
        intro q
        induction q with
        | nil => intro _; exact Nat.zero_le _
        | cons k q ih =>
          intro h
          simp only [Tw.deeps]
          have := h k (by simp)
          have := ih fun z hz => h z (by simp [hz])
          omega
      have := this l hK.deep
      omega
    conv => whnf
    refine ⟨⟨rfl, some (.mk ps l), ((a + 1 + Tw.sizes l : Nat) : Int), true, ?_, ⟨fun _ => ⟨.mk ps l, rfl, hfitl, hdl, ?_⟩, fun h => (by cases h)⟩⟩⟩
    · show [[D.lf (.bool ((kids.length : Int) == 0)), .row 2 RngX.ds ps, .row 3 (subE b) l], _, _] = [[D.lf (.bool l.isEmpty), .row 2 RngX.ds ps, .row 3 (subE b) l], _, _]
      have : ((kids.length : Int) == 0) = l.isEmpty := by rw [Bool.eq_iff_iff, List.isEmpty_iff, beq_iff_eq, ← List.length_eq_zero_iff]; omega
      rw [this]
    · simp only [Tw.size]; rw [Nat.add_assoc]
theorem sRead_ok : FnOk Tryz.prog 120 cSRead := fn_rec (fun g => g.b) fun n hs x hx => fnX_at tab_ok (SOk.cons hs (SOk.cons gh_ok SOk.nil)) mixed (fn := Tryz.f120) (code := body Tryz.f120) ⟨Tryz.func120, rfl, by kernel_rfl, by kernel_rfl, by kernel_rfl, by kernel_rfl⟩ (ev_sRead n x hx)
structure RootS (N : List NodeX) (o : Option Tw) (ok : Bool) : Prop where
  yes : ok = true → N ≠ [] → ∃ x, o = some x ∧ Fit false N 0 x ∧ x.size = N.length ∧ x.deep ≤ 13
  no : ok = false → ∀ x, Fit false N 0 x → x.size = N.length → ¬ x.deep ≤ 13
  emp : N = [] → o = some (.mk [] []) ∧ ok = true
def cSRoot : Con := relC TreeX [(.rd, true)] [true, false] (fun g => [[.row 3 NodeX.ds g.N]]) (fun g r => ∃ o ok, r = [optS 13 o, [.lf (.bool ok)]] ∧ RootS g.N o ok)
theorem ev_sRoot : ∀ x, evFnX tab [(120, cSRead)] cSRoot Tryz.f66 (body Tryz.f66) x := by
  rintro ⟨N, f, hf, hN, hp⟩
  replace hN : N.length ≤ 1048576 := hN
  conv => whnf
  intro _
  conv => whnf
  refine br2 (fun h1 => ?_) (fun h1 => ?_)
  · have h1' : N = [] := by
      replace h1 : ((N.length : Int) == 0) = true := h1
      exact List.eq_nil_of_length_eq_zero (by simpa using h1)
    subst h1'
    conv => whnf
    refine ⟨2, RngX, RngX.ds, fun _ => rfl, ?_⟩
    conv => whnf
    refine ⟨3, Tw, subE 12, subE_len 12, ?_⟩
    conv => whnf
    exact ⟨⟨rfl, some (.mk [] []), true, rfl, fun _ h => absurd rfl h, fun h => (by cases h), fun _ => ⟨rfl, rfl⟩⟩⟩
  have h1' : N ≠ [] := by
    replace h1 : ((N.length : Int) == 0) = false := h1
    rintro rfl; simp at h1
  conv => whnf
  refine ⟨⟨N, 0, 13, 0, hN, hp, rfl, by omega⟩, rfl, ?_⟩
  rintro _ _ ⟨rfl, o, next, ok, rfl, rr⟩
  replace rr : ReadR N 0 13 o next ok := rr
  cases ok with
  | false =>
    obtain ⟨rfl, rno⟩ := rr.no rfl
    conv => whnf
    repeat ((first | refine rc_i rfl ?_ | refine rc_i (fun _ => rfl) ?_); conv => whnf)
    exact ⟨⟨rfl, none, false, rfl, fun h => (by cases h), fun _ x hf _ hd => rno x hf hd, fun h => absurd h h1'⟩⟩
  | true =>
    obtain ⟨⟨us, is⟩, rfl, hxf, hd, rfl⟩ := rr.yes rfl
    conv => whnf
    intro _
    conv => whnf
    repeat ((first | refine rc_i rfl ?_ | refine rc_i (fun _ => rfl) ?_); conv => whnf)
    refine ⟨⟨rfl, some (.mk us is), _, rfl, ⟨fun h _ => ⟨_, rfl, hxf, ?_, hd⟩, fun h x hf hs _ => ?_, fun h => absurd h h1'⟩⟩⟩
    · replace h : (((0 + (Tw.mk us is).size : Nat) : Int) == (N.length : Int)) = true := h
      rw [beq_iff_eq] at h
      show (Tw.mk us is).size = N.length
      omega
    · replace h : (((0 + (Tw.mk us is).size : Nat) : Int) == (N.length : Int)) = false := h
      replace hs : x.size = N.length := hs
      rw [Fit.uniq x _ 0 hf hxf] at hs
      rw [beq_eq_false_iff_ne] at h
      omega
theorem sRoot_ok : FnOk Tryz.prog 66 cSRoot := fnOk_of fun x => fnX_at tab_ok (SOk.cons sRead_ok SOk.nil) mixed (fn := Tryz.f66) (code := body Tryz.f66) ⟨Tryz.func66, rfl, by kernel_rfl, by kernel_rfl, by kernel_rfl, by kernel_rfl⟩ (ev_sRoot x)
end Go.Vm
namespace Go.Vm
open Go.Proofs
set_option maxRecDepth 100000
set_option linter.unusedVariables false
set_option linter.unusedSimpArgs false

def PreEq {α : Type} (l m : List α) (i : Nat) : Prop := ∀ j, j < i → l[j]? = m[j]?
theorem preEq_all {α : Type} {l m : List α} (h : l.length = m.length) (g : PreEq l m l.length) : l = m := by
  apply List.ext_getElem?
  intro j
  rcases Nat.lt_or_ge j l.length with h1 | h1
  · exact g j h1
  · rw [List.getElem?_eq_none h1, List.getElem?_eq_none (by omega)]
theorem PreEq.snoc {α : Type} {l m : List α} {i : Nat} {y : α} (h : PreEq l m i) (hl : l[i]? = some y) (hm : m[i]? = some y) : PreEq l m (i + 1) := fun j hj => by
  rcases Nat.lt_or_ge j i with h1 | h1
  · exact h j h1
  · obtain rfl : j = i := by omega
    rw [hl, hm]
theorem ev_sameNode : ∀ x, evFnX tab [] (cEq NodeX.ds) Tryz.f116 (body Tryz.f116) x := by
  rintro ⟨⟨ps, keys, kids⟩, ⟨qs, leys, lids⟩⟩
  have no : (⟨ps, keys, kids⟩ : NodeX) ≠ ⟨qs, leys, lids⟩ → [[D.lf (.bool false)]] = [[D.lf (.bool (eqX (⟨ps, keys, kids⟩ : NodeX) ⟨qs, leys, lids⟩))]] := fun h => by rw [eqX_no.2 h]
  conv => whnf
  intro hl1
  replace hl1 : ps.length ≤ 9223372036854775807 := hl1
  conv => whnf
  intro _
  conv => whnf
  refine br2 (fun h1 => ?_) (fun h1 => ?_)
  · replace h1 : ((ps.length : Int) != (qs.length : Int)) = true := h1
    conv => whnf
    refine ⟨⟨rfl, no ?_⟩⟩
    rintro ⟨⟩; simp at h1
  replace h1 : ((ps.length : Int) != (qs.length : Int)) = false := h1
  have h1' : ps.length = qs.length := by simp at h1; omega
  conv => whnf
  intro hl2
  replace hl2 : keys.length ≤ 9223372036854775807 := hl2
  conv => whnf
  intro _
  conv => whnf
  refine br2 (fun h2 => ?_) (fun h2 => ?_)
  · replace h2 : ((keys.length : Int) != (leys.length : Int)) = true := h2
    conv => whnf
    refine ⟨⟨rfl, no ?_⟩⟩
    rintro ⟨⟩; simp at h2
  replace h2 : ((keys.length : Int) != (leys.length : Int)) = false := h2
  have h2' : keys.length = leys.length := by simp at h2; omega
  conv => whnf
  intro hl3
  replace hl3 : kids.length ≤ 9223372036854775807 := hl3
  conv => whnf
  intro _
  conv => whnf
  refine br2 (fun h3 => ?_) (fun h3 => ?_)
  · replace h3 : ((kids.length : Int) != (lids.length : Int)) = true := h3
    conv => whnf
    refine ⟨⟨rfl, no ?_⟩⟩
    rintro ⟨⟩; simp at h3
  replace h3 : ((kids.length : Int) != (lids.length : Int)) = false := h3
  have h3' : kids.length = lids.length := by simp at h3; omega
  conv => whnf
  intro _
  conv => whnf
  let H0 : Hp := [(32, some (.arr true 3 [[.sl 0 none, .sl 1 none, .sl 2 none]])), (48, some (.arr true 3 [[.sl 16 none, .sl 17 none, .sl 18 none]])), (0, some (.row .lent 2 RngX.ds ps)), (1, some (.row .lent 1 strE1 keys)), (2, some (.row .lent 1 intE1 kids)),
    (16, some (.row .lent 2 RngX.ds qs)), (17, some (.row .lent 1 strE1 leys)), (18, some (.row .lent 1 intE1 lids))]
  let R0 : List (Nat × Nat) := [(32, 32), (48, 48), (0, 0), (1, 1), (2, 2), (16, 16), (17, 17), (18, 18)]
  let S1 : Nat → Sl := fun i => [(36, .lf (.int .i64 i)), (35, .lf (.int .i64 ps.length)), (2, .pt 32 0 0), (3, .pt 48 0 0)]
  refine ⟨fun m s h => ∃ i : Nat, i ≤ ps.length ∧ PreEq ps qs i ∧ m = ps.length - i ∧ s = S1 i ∧ h = H0, ps.length, R0, S1 0, H0, ⟨rfl, ⟨rfl, rfl, rfl, rfl, trivial⟩, rfl, rfl, rfl, rfl, rfl, rfl, rfl, rfl, trivial⟩, ⟨0, by omega, fun j h => by omega, rfl, rfl, rfl⟩, ?_⟩
  rintro m _ _ ⟨i, g1, g2, rfl, rfl, rfl⟩
  conv => whnf
  refine br2 (fun h5 => ?_) (fun h5 => ?_)
  · have hi : i < ps.length := by have := of_decide_eq_true h5; omega
    obtain ⟨y, hy⟩ := getL hi
    obtain ⟨z, hz⟩ := getL (l := qs) (j := i) (by omega)
    conv => whnf
    refine ⟨Int.natCast_nonneg _, ltI hy, ?_⟩
    conv => whnf
    refine ex2 _ (nthI hy) ?_
    conv => whnf
    refine ⟨Int.natCast_nonneg _, ltI hz, ?_⟩
    conv => whnf
    refine ex2 _ (nthI hz) ?_
    conv => whnf
    refine br2 (fun h6 => ?_) (fun h6 => ?_)
    · replace h6 : (!(strEq y.lo z.lo && (strEq y.hi z.hi && true))) = true := h6
      conv => whnf
      refine ⟨⟨rfl, no ?_⟩⟩
      rintro ⟨⟩
      rw [hy] at hz; cases hz
      simp [strEq_refl] at h6
    · replace h6 : (!(strEq y.lo z.lo && (strEq y.hi z.hi && true))) = false := h6
      have e : y = z := by
        simp [strEq_iff] at h6
        obtain ⟨a, b⟩ := y; obtain ⟨c, d⟩ := z
        simp at h6; rw [h6.1, h6.2]
      subst e
      conv => whnf
      exact ⟨ps.length - (i + 1), R0, S1 (i + 1), H0, by omega, ⟨rfl, ⟨incI hi hl1, rfl, rfl, rfl, trivial⟩, rfl, rfl, rfl, rfl, rfl, rfl, rfl, rfl, trivial⟩, i + 1, by omega, g2.snoc hy hz, rfl, rfl, rfl⟩
  have hi : i = ps.length := by have := of_decide_eq_false h5; omega
  subst hi
  obtain rfl := preEq_all h1' g2
  clear g1 g2 h5
  conv => whnf
  intro _
  conv => whnf
  let S2 : Nat → Sl := fun i => [(54, .lf (.int .i64 i)), (53, .lf (.int .i64 keys.length)), (2, .pt 32 0 0), (3, .pt 48 0 0)]
  refine ⟨fun m s h => ∃ i : Nat, i ≤ keys.length ∧ PreEq keys leys i ∧ m = keys.length - i ∧ s = S2 i ∧ h = H0, keys.length, R0, S2 0, H0, ⟨rfl, ⟨rfl, rfl, rfl, rfl, trivial⟩, rfl, rfl, rfl, rfl, rfl, rfl, rfl, rfl, trivial⟩, ⟨0, by omega, fun j h => by omega, rfl, rfl, rfl⟩, ?_⟩
  rintro m _ _ ⟨i, g1, g2, rfl, rfl, rfl⟩
  conv => whnf
  refine br2 (fun h5 => ?_) (fun h5 => ?_)
  · have hi : i < keys.length := by have := of_decide_eq_true h5; omega
    obtain ⟨y, hy⟩ := getL hi
    obtain ⟨z, hz⟩ := getL (l := leys) (j := i) (by omega)
    conv => whnf
    refine ⟨Int.natCast_nonneg _, ltI hy, ?_⟩
    conv => whnf
    refine ex2 _ (nthI hy) ?_
    conv => whnf
    refine ⟨Int.natCast_nonneg _, ltI hz, ?_⟩
    conv => whnf
    refine ex2 _ (nthI hz) ?_
    conv => whnf
    refine br2 (fun h6 => ?_) (fun h6 => ?_)
    · replace h6 : (!strEq y z) = true := h6
      conv => whnf
      refine ⟨⟨rfl, no ?_⟩⟩
      rintro ⟨⟩
      rw [hy] at hz; cases hz
      simp [strEq_refl] at h6
    · replace h6 : (!strEq y z) = false := h6
      have e : y = z := by simpa [strEq_iff] using h6
      subst e
      conv => whnf
      exact ⟨keys.length - (i + 1), R0, S2 (i + 1), H0, by omega, ⟨rfl, ⟨incI hi hl2, rfl, rfl, rfl, trivial⟩, rfl, rfl, rfl, rfl, rfl, rfl, rfl, rfl, trivial⟩, i + 1, by omega, g2.snoc hy hz, rfl, rfl, rfl⟩
  have hi : i = keys.length := by have := of_decide_eq_false h5; omega
  subst hi
  obtain rfl := preEq_all h2' g2
  clear g1 g2 h5
  conv => whnf
  intro _
  conv => whnf
  let S3 : Nat → Sl := fun i => [(72, .lf (.int .i64 i)), (71, .lf (.int .i64 kids.length)), (2, .pt 32 0 0), (3, .pt 48 0 0)]
  refine ⟨fun m s h => ∃ i : Nat, i ≤ kids.length ∧ PreEq kids lids i ∧ m = kids.length - i ∧ s = S3 i ∧ h = H0, kids.length, R0, S3 0, H0, ⟨rfl, ⟨rfl, rfl, rfl, rfl, trivial⟩, rfl, rfl, rfl, rfl, rfl, rfl, rfl, rfl, trivial⟩, ⟨0, by omega, fun j h => by omega, rfl, rfl, rfl⟩, ?_⟩
  rintro m _ _ ⟨i, g1, g2, rfl, rfl, rfl⟩
  conv => whnf
  refine br2 (fun h5 => ?_) (fun h5 => ?_)
  · have hi : i < kids.length := by have := of_decide_eq_true h5; omega
    obtain ⟨y, hy⟩ := getL hi
    obtain ⟨z, hz⟩ := getL (l := lids) (j := i) (by omega)
    conv => whnf
    refine ⟨Int.natCast_nonneg _, ltI hy, ?_⟩
    conv => whnf
    refine ex2 _ (nthI hy) ?_
    conv => whnf
    refine ⟨Int.natCast_nonneg _, ltI hz, ?_⟩
    conv => whnf
    refine ex2 _ (nthI hz) ?_
    conv => whnf
    refine br2 (fun h6 => ?_) (fun h6 => ?_)
    · replace h6 : (y != z) = true := h6
      conv => whnf
      refine ⟨⟨rfl, no ?_⟩⟩
      rintro ⟨⟩
      rw [hy] at hz; cases hz
      simp at h6
    · replace h6 : (y != z) = false := h6
      have e : y = z := by simpa using h6
      subst e
      conv => whnf
      exact ⟨kids.length - (i + 1), R0, S3 (i + 1), H0, by omega, ⟨rfl, ⟨incI hi hl3, rfl, rfl, rfl, trivial⟩, rfl, rfl, rfl, rfl, rfl, rfl, rfl, rfl, trivial⟩, i + 1, by omega, g2.snoc hy hz, rfl, rfl, rfl⟩
  have hi : i = kids.length := by have := of_decide_eq_false h5; omega
  subst hi
  obtain rfl := preEq_all h3' g2
  conv => whnf
  refine ⟨⟨rfl, ?_⟩⟩
  show [[D.lf (.bool true)]] = [[D.lf (.bool (eqX (⟨ps, keys, kids⟩ : NodeX) ⟨ps, keys, kids⟩))]]
  rw [eqX_refl]
theorem sameNode_ok : FnOk Tryz.prog 116 (cEq NodeX.ds) := fnOk_of fun x => fnX_at tab_ok (SOk.nil) mixed (fn := Tryz.f116) (code := body Tryz.f116) ⟨Tryz.func116, rfl, by kernel_rfl, by kernel_rfl, by kernel_rfl, by kernel_rfl⟩ (ev_sameNode x)
theorem treeP_read {N : List NodeX} (h : TreeP N) (hne : N ≠ []) : ∃ x d, Shp true d x ∧ PairsOkP x.all ∧ N = x.lay 0 ∧ Fit false N 0 x ∧ x.size = N.length ∧ d ≤ 7 ∧ x.deep = d := by
  obtain ⟨o, ho, rfl⟩ := h
  cases o with
  | none => exact absurd rfl hne
  | some x =>
    obtain ⟨d, hd⟩ := ho.shp
    obtain ⟨e1, e2⟩ := fit_all.2 (show x.lay 0 = x.lay 0 from rfl)
    exact ⟨x, d, hd, ho.ok, rfl, e1.noK, e2, hd.deep_le ho.ok.len, hd.deep⟩
theorem ev_sTreeOk : ∀ x, evFnX tab [(1000013, cGh), (1000016, cGh), (66, cSRoot), (112, (pureC FullX [(.rd, true), (.rd, false)] [false] (fun f => [subE f.t.n f.t.x, [.lf (.bool f.root)]]) (fun f => [[.lf (.bool (Tw.full f.root f.t.x))]]))), (113, cSDeep), (67, (pureC PrsS [(.rd, true)] [false] (fun p => [subE p.n p.x]) (fun p => [[.row 2 RngX.ds p.x.all]]))), (114, cPairsOk), (115, cSLay), (116, (cEq NodeX.ds))] cTreeOk Tryz.f61 (body Tryz.f61) x := by
  rintro ⟨N, f, hf, hN, hp⟩
  replace hN : N.length ≤ 1048576 := hN
  conv => whnf
  intro _
  conv => whnf
  refine br2 (fun h1 => ?_) (fun h1 => ?_)
  · have h1' : N = [] := by
      replace h1 : ((N.length : Int) == 0) = true := h1
      exact List.eq_nil_of_length_eq_zero (by simpa using h1)
    subst h1'
    conv => whnf
    exact ⟨⟨rfl, true, rfl, fun _ => ⟨none, ⟨trivial, by simp [allO], fun p hp => by simp [allO] at hp, by simp [allO, Srt]⟩, rfl⟩, fun _ => rfl⟩⟩
  have h1' : N ≠ [] := by
    replace h1 : ((N.length : Int) == 0) = false := h1
    rintro rfl; simp at h1
  have no : (∀ x d, Shp true d x → PairsOkP x.all → N = x.lay 0 → Fit false N 0 x → x.size = N.length → x.deep ≤ 13 → False) → (false = true ↔ TreeP N) := fun h =>
    ⟨fun e => (by cases e), fun e => by
      obtain ⟨x, d, a1, a2, a3, a4, a5, a6, a7⟩ := treeP_read e h1'
      exact (h x d a1 a2 a3 a4 a5 (by omega)).elim⟩
  conv => whnf
  intro _
  conv => whnf
  refine br2 (fun h2 => ?_) (fun h2 => ?_)
  · replace h2 : decide ((N.length : Int) > 400) = true := h2
    have h2' := of_decide_eq_true h2
    conv => whnf
    refine ⟨⟨rfl, false, rfl, no fun x d a1 a2 a3 a4 a5 _ => ?_⟩⟩
    have := a1.manyR.2.2.1
    have := a2.len
    omega
  replace h2 : decide ((N.length : Int) > 400) = false := h2
  have h2' := of_decide_eq_false h2
  conv => whnf
  refine ⟨⟨N, f, hf, hN, hp⟩, rfl, ?_⟩
  rintro _ _ ⟨rfl, o, ok, rfl, rs⟩
  replace rs : RootS N o ok := rs
  cases ok with
  | false =>
    have rno := rs.no rfl
    have out : false = true ↔ TreeP N := no fun x d _ _ _ a4 a5 a6 => rno x a4 a5 a6
    rcases o with _ | ⟨us, is⟩
    all_goals
      conv => whnf
      exact ⟨⟨rfl, false, rfl, out⟩⟩
  | true =>
  obtain ⟨⟨us, is⟩, rfl, hxf, hsz, hd⟩ := rs.yes rfl h1'
  have uniq : ∀ x, Fit false N 0 x → x = .mk us is := fun x h => Fit.uniq x _ 0 h hxf
  conv => whnf
  refine ⟨⟨⟨13, .mk us is, hd, by omega⟩, true⟩, rfl, ?_⟩
  rintro _ _ ⟨rfl, rfl⟩
  conv => whnf
  refine br2 (fun h3 => ?_) (fun h3 => ?_)
  · have h3' : Tw.full true (.mk us is) = false := by
      replace h3 : (!Tw.full true (.mk us is)) = true := h3
      simpa using h3
    conv => whnf
    refine ⟨⟨rfl, false, rfl, no fun x d a1 _ _ a4 _ _ => ?_⟩⟩
    rw [uniq x a4] at a1
    rw [a1.full.1] at h3'; cases h3'
  have h3' : Tw.full true (.mk us is) = true := by
    replace h3 : (!Tw.full true (.mk us is)) = false := h3
    simpa using h3
  conv => whnf
  refine ⟨⟨13, .mk us is, hd, by omega⟩, rfl, ?_⟩
  rintro _ _ ⟨rfl, v, rfl, v1, v2, v3⟩
  conv => whnf
  replace v2 : 0 ≤ v → Lev (Tw.mk us is).deep (.mk us is) ∧ v = ((Tw.mk us is).deep : Int) := v2
  replace v3 : v < 0 → ∀ d, ¬ Lev d (.mk us is) := v3
  refine br2 (fun h4 => ?_) (fun h4 => ?_)
  · have h4' : v < 0 := of_decide_eq_true h4
    conv => whnf
    refine ⟨⟨rfl, false, rfl, no fun x d a1 _ _ a4 _ _ => ?_⟩⟩
    rw [uniq x a4] at a1
    exact v3 h4' d a1.full.2
  have h4' : 0 ≤ v := by have h5 : ¬ v < 0 := of_decide_eq_false h4; omega
  obtain ⟨hlev, _⟩ := v2 h4'
  have hshp := Shp.of_full hlev h3'
  have hp4 := hshp.pairs4
  conv => whnf
  refine ⟨⟨13, .mk us is, hshp.prs, hd, by show (Tw.mk us is).all.length ≤ 4294967296; omega⟩, rfl, ?_⟩
  rintro _ _ ⟨rfl, rfl⟩
  conv => whnf
  refine ⟨(Tw.mk us is).all, rfl, ?_⟩
  rintro _ _ ⟨rfl, b, rfl, e⟩
  conv => whnf
  replace e : b = true ↔ PairsOkP (Tw.mk us is).all := e
  refine br2 (fun h5 => ?_) (fun h5 => ?_)
  · have h5' : ¬ PairsOkP (Tw.mk us is).all := fun h => by rw [e.2 h] at h5; cases h5
    conv => whnf
    refine ⟨⟨rfl, false, rfl, no fun x d _ a2 _ a4 _ _ => ?_⟩⟩
    rw [uniq x a4] at a2
    exact h5' a2
  have h5' : PairsOkP (Tw.mk us is).all := e.1 (by cases b <;> first | rfl | cases h5)
  conv => whnf
  refine ⟨3, NodeX, NodeX.ds, fun _ => rfl, ?_⟩
  conv => whnf
  refine ⟨⟨⟨13, .mk us is, true, (Tw.mk us is).deep, hshp, hd⟩, [], by show 0 + (Tw.mk us is).size ≤ 4194304; omega⟩, rfl, ?_⟩
  rintro _ _ ⟨rfl, rfl⟩
  conv => whnf
  intro _
  conv => whnf
  intro _
  conv => whnf
  have hA : ((Tw.mk us is).lay 0).length = N.length := by rw [Tw.lay_len]; exact hsz
  generalize hAe : (Tw.mk us is).lay 0 = A at *
  refine br2 (fun h6 => ?_) (fun h6 => ?_)
  · exfalso
    replace h6 : ((A.length : Int) != (N.length : Int)) = true := h6
    rw [hA] at h6; simp at h6
  conv => whnf
  intro _
  conv => whnf
  let S0 : Nat → Sl := fun i => [(48, .lf (.int .i64 i)), (47, .lf (.int .i64 A.length)), (5, .sl 624 none), (1, .pt 16 0 0)]
  let H0 : Hp := [(624, some (.row .own 3 NodeX.ds A)), (16, some (.arr true 1 [[.sl 0 none]])), (0, some (.row .lent 3 NodeX.ds N))]
  refine ⟨fun m s h => ∃ i : Nat, i ≤ A.length ∧ PreEq A N i ∧ m = A.length - i ∧ s = S0 i ∧ h = H0, A.length, [(624, 624), (16, 16), (0, 0)], S0 0, H0, ⟨rfl, ⟨rfl, rfl, rfl, rfl, trivial⟩, rfl, rfl, rfl, trivial⟩, ⟨0, by omega, fun j h => by omega, rfl, rfl, rfl⟩, ?_⟩
  rintro m _ _ ⟨i, g1, g2, rfl, rfl, rfl⟩
  conv => whnf
  refine br2 (fun h7 => ?_) (fun h7 => ?_)
  · have hi : i < A.length := by have := of_decide_eq_true h7; omega
    obtain ⟨y, hy⟩ := getL hi
    obtain ⟨z, hz⟩ := getL (l := N) (j := i) (by omega)
    conv => whnf
    refine ⟨[.foc 624 i 1000], ?_⟩
    conv => whnf
    refine ex2 y (by rw [nth_eq]; exact hy) ?_
    conv => whnf
    refine ⟨Int.natCast_nonneg _, ltI hy, ?_⟩
    conv => whnf
    refine ⟨Int.toNat_natCast i, ?_⟩
    conv => whnf
    refine ⟨Int.natCast_nonneg _, ltI hz, ?_⟩
    conv => whnf
    refine ex2 _ (nthI hz) ?_
    conv => whnf
    refine ⟨(y, z), rfl, ?_⟩
    rintro _ _ ⟨rfl, rfl⟩
    conv => whnf
    repeat ((first | refine rc_i rfl ?_ | refine rc_i (fun _ => rfl) ?_); conv => whnf)
    refine br2 (fun h8 => ?_) (fun h8 => ?_)
    · have h8' : y ≠ z := by
        replace h8 : (!eqX y z) = true := h8
        rw [Bool.not_eq_true', eqX_no] at h8; exact h8
      conv => whnf
      refine ⟨⟨rfl, false, rfl, no fun x d a1 a2 a3 a4 _ _ => ?_⟩⟩
      rw [uniq x a4, hAe] at a3
      rw [a3, hy] at hz
      exact h8' (Option.some.inj hz)
    · have h8' : y = z := by
        replace h8 : (!eqX y z) = false := h8
        rw [Bool.not_eq_false', eqX_iff] at h8; exact h8
      subst h8'
      conv => whnf
      refine ⟨[.unf 624], ?_⟩
      conv => whnf
      refine ⟨y, rfl, ?_⟩
      conv => whnf
      refine ⟨A.length - (i + 1), [(624, 624), (16, 16), (0, 0)], S0 (i + 1), H0, by omega, ⟨rfl, ⟨incI hi (by omega), rfl, rfl, rfl, trivial⟩, ?_, rfl, rfl, trivial⟩, i + 1, by omega, g2.snoc hy hz, rfl, rfl, rfl⟩
      show _ = some (Ob.row Kind.own 3 NodeX.ds A)
      have : A.set i y = A := by
        apply List.ext_getElem?
        intro j
        rw [List.getElem?_set]
        split
        · rename_i e; subst e; exact hy.symm
        · rfl
      show some (Ob.row Kind.own 3 NodeX.ds (A.set i y)) = _
      rw [this]
  · have hi : i = A.length := by have := of_decide_eq_false h7; omega
    subst hi
    have := preEq_all hA g2
    conv => whnf
    exact ⟨⟨rfl, true, rfl, fun _ => ⟨some (.mk us is), ⟨⟨_, hshp⟩, h5'⟩, this.symm.trans hAe.symm⟩, fun _ => rfl⟩⟩
theorem sTreeOk_ok : FnOk Tryz.prog 61 cTreeOk := fnOk_of fun x => fnX_at tab_ok (SOk.cons gh_ok (SOk.cons gh_ok (SOk.cons sRoot_ok (SOk.cons sFull_ok (SOk.cons sDeep_ok (SOk.cons sPairs_ok (SOk.cons sPairsOk_ok (SOk.cons sLay_ok (SOk.cons sameNode_ok SOk.nil))))))))) mixed (fn := Tryz.f61) (code := body Tryz.f61) ⟨Tryz.func61, rfl, by kernel_rfl, by kernel_rfl, by kernel_rfl, by kernel_rfl⟩ (ev_sTreeOk x)
theorem ev_sTreeAll : ∀ x, evFnX tab [(61, cTreeOk), (66, cSRoot), (67, (pureC PrsS [(.rd, true)] [false] (fun p => [subE p.n p.x]) (fun p => [[.row 2 RngX.ds p.x.all]])))] cTreeAll Tryz.f29 (body Tryz.f29) x := by
  rintro ⟨N, f, hf, hN, hp⟩
  replace hN : N.length ≤ 1048576 := hN
  conv => whnf
  refine ⟨⟨N, f, hf, hN, hp⟩, rfl, ?_⟩
  rintro _ _ ⟨rfl, b, rfl, e⟩
  conv => whnf
  replace e : b = true ↔ TreeP N := e
  refine br2 (fun h1 => ?_) (fun h1 => ?_)
  · have h1' : ¬ TreeP N := fun h => by rw [e.2 h] at h1; cases h1
    conv => whnf
    refine ⟨2, RngX, RngX.ds, fun _ => rfl, ?_⟩
    conv => whnf
    exact ⟨⟨rfl, [], rfl, fun o ho e => absurd ⟨o, ho, e⟩ h1', fun _ => rfl⟩⟩
  have h1' : TreeP N := e.1 (by cases b <;> first | rfl | cases h1)
  conv => whnf
  refine ⟨⟨N, f, hf, hN, hp⟩, rfl, ?_⟩
  rintro _ _ ⟨rfl, o, ok, rfl, rs⟩
  replace rs : RootS N o ok := rs
  have fin : ∀ x : Tw, (N = [] → x = .mk [] []) → (N ≠ [] → Fit false N 0 x) → AllR N x.all := by
    intro x g1 g2
    refine ⟨fun o ho e => ?_, fun h => absurd h1' h⟩
    by_cases hne : N = []
    · rw [g1 hne]
      rw [hne] at e
      rw [layO_nil.1 e.symm]; rfl
    · obtain ⟨y, d, a1, a2, a3, a4, a5, a6, a7⟩ := treeP_read h1' hne
      have h2 := Fit.uniq x y 0 (g2 hne) a4
      rw [h2]
      rw [a3] at e
      rw [← layO_inj (o := some y) e]; rfl
  obtain ⟨us, is, rfl, rfl, g1, g2, g3, g4⟩ : ∃ us is, o = some (.mk us is) ∧ ok = true ∧ (N = [] → Tw.mk us is = .mk [] []) ∧ (N ≠ [] → Fit false N 0 (.mk us is)) ∧ (Tw.mk us is).deep ≤ 13 ∧ (Tw.mk us is = .mk [] [] ∨ ∃ b d, Shp b d (.mk us is)) := by
    by_cases hne : N = []
    · obtain ⟨rfl, rfl⟩ := rs.emp hne
      exact ⟨[], [], rfl, rfl, fun _ => rfl, fun h => absurd hne h, by simp [Tw.deep, Tw.deeps], .inl rfl⟩
    · obtain ⟨y, d, a1, a2, a3, a4, a5, a6, a7⟩ := treeP_read h1' hne
      cases ok with
      | false => exact absurd (show y.deep ≤ 13 by omega) (rs.no rfl y a4 a5)
      | true =>
        obtain ⟨x, rfl, b1, b2, b3⟩ := rs.yes rfl hne
        have := Fit.uniq x y 0 b1 a4
        subst this
        obtain ⟨us, is⟩ := x
        exact ⟨us, is, rfl, rfl, fun h => absurd h hne, fun _ => b1, b3, .inr ⟨_, _, a1⟩⟩
  have hlen : (Tw.mk us is).all.length ≤ 4294967296 := by
    obtain ⟨o', ho', e'⟩ := h1'
    rw [(fin _ g1 g2).yes o' ho' e']
    have := ho'.ok.len
    omega
  conv => whnf
  refine ⟨⟨13, .mk us is, prs_of g4, g3, hlen⟩, rfl, ?_⟩
  rintro _ _ ⟨rfl, rfl⟩
  conv => whnf
  exact ⟨⟨rfl, _, rfl, fin _ g1 g2⟩⟩
theorem sTreeAll_ok : FnOk Tryz.prog 29 cTreeAll := fnOk_of fun x => fnX_at tab_ok (SOk.cons sTreeOk_ok (SOk.cons sRoot_ok (SOk.cons sPairs_ok SOk.nil))) mixed (fn := Tryz.f29) (code := body Tryz.f29) ⟨Tryz.func29, rfl, by kernel_rfl, by kernel_rfl, by kernel_rfl, by kernel_rfl⟩ (ev_sTreeAll x)
end Go.Vm
namespace Go.Vm
open Go.Proofs
set_option maxRecDepth 100000
set_option linter.unusedVariables false
set_option linter.unusedSimpArgs false

end Go.Vm
namespace Go.Vm
open Go.Proofs
set_option maxRecDepth 100000
set_option linter.unusedVariables false
set_option linter.unusedSimpArgs false

end Go.Vm
namespace Go.Vm
set_option linter.unusedVariables false
set_option linter.unusedSimpArgs false
def insAt {α : Type} (l : List α) (i : Nat) (p : α) : List α := l.take i ++ p :: l.drop i
theorem insAt_len {α : Type} (l : List α) (i : Nat) (p : α) : (insAt l i p).length = l.length + 1 := by unfold insAt; simp; omega
theorem insAt_get {α : Type} {l : List α} {i : Nat} (p : α) (hi : i ≤ l.length) (j : Nat) : (insAt l i p)[j]? = if j < i then l[j]? else if j = i then some p else l[j - 1]? := by
  unfold insAt
  have hl : (l.take i).length = i := by rw [List.length_take]; omega
  by_cases h1 : j < i
  · rw [if_pos h1, List.getElem?_append_left (by omega), List.getElem?_take, if_pos h1]
  · rw [if_neg h1, List.getElem?_append_right (by omega), hl]
    by_cases h2 : j = i
    · subst h2; rw [if_pos rfl, Nat.sub_self]; rfl
    · rw [if_neg h2, show j - i = (j - 1 - i) + 1 by omega, List.getElem?_cons_succ, List.getElem?_drop]
      congr 1; omega
end Go.Vm
namespace Go.Vm
open Go.Proofs Go.RowKit
set_option linter.unusedVariables false
set_option linter.unusedSimpArgs false
end Go.Vm
namespace Go.Vm
open Go.Proofs Go.RowKit Go.Lib
set_option linter.unusedVariables false
set_option linter.unusedSimpArgs false
variable {P : Program}
end Go.Vm
namespace Go.Vm
open Go.Proofs Go.RowKit
set_option linter.unusedVariables false
set_option linter.unusedSimpArgs false
end Go.Vm
namespace Go.Vm
open Go.Proofs Go.RowKit
set_option linter.unusedVariables false
set_option linter.unusedSimpArgs false
variable {P : Program} {f : FuncId}
end Go.Vm
namespace Go.Vm
open Go.Proofs Go.RowKit Go.Lib
set_option linter.unusedVariables false
set_option linter.unusedSimpArgs false
end Go.Vm
namespace Go.Vm
open Go.Proofs Go.RowKit Go.Lib
set_option linter.unusedVariables false
set_option linter.unusedSimpArgs false
end Go.Vm
namespace Go.Vm
open Go.Proofs Go.RowKit
set_option maxRecDepth 100000
set_option linter.unusedVariables false
set_option linter.unusedSimpArgs false

end Go.Vm
namespace Go.Vm
open Go.Proofs Go.RowKit Go.Lib
set_option linter.unusedVariables false
set_option linter.unusedSimpArgs false
end Go.Vm
namespace Go.Vm
open Go.Proofs Go.RowKit Go.Lib
set_option linter.unusedVariables false
set_option linter.unusedSimpArgs false
end Go.Vm
namespace Go.Vm
open Go.Proofs Go.RowKit
set_option maxRecDepth 100000
set_option linter.unusedVariables false
set_option linter.unusedSimpArgs false

end Go.Vm
namespace Go.Vm
open Go.Proofs
set_option maxRecDepth 100000
set_option linter.unusedVariables false
set_option linter.unusedSimpArgs false

end Go.Vm
namespace Go.Vm
open Go.Proofs
set_option maxRecDepth 100000
set_option linter.unusedVariables false
set_option linter.unusedSimpArgs false

end Go.Vm
namespace Go.Vm
open Go.Proofs
set_option maxRecDepth 100000
set_option linter.unusedVariables false
set_option linter.unusedSimpArgs false

end Go.Vm
namespace Go.Vm
open Go.Proofs
set_option maxRecDepth 100000
set_option linter.unusedVariables false
set_option linter.unusedSimpArgs false

def one1 : Tw → Nat
  | .mk _ [_] => 1
  | _ => 0
end Go.Vm
namespace Go.Vm
open Go.Proofs
set_option maxRecDepth 100000
set_option linter.unusedVariables false
set_option linter.unusedSimpArgs false

end Go.Vm
namespace Go.Vm
open Go.Proofs
set_option maxRecDepth 100000
set_option linter.unusedVariables false
set_option linter.unusedSimpArgs false

end Go.Vm
namespace Go.Vm
open Go.Proofs
set_option maxRecDepth 100000
set_option linter.unusedVariables false
set_option linter.unusedSimpArgs false

end Go.Vm
namespace Go.Vm
open Go.Proofs
set_option maxRecDepth 100000
set_option linter.unusedVariables false
set_option linter.unusedSimpArgs false

end Go.Vm
namespace Go.Vm
open Go.Proofs
set_option maxRecDepth 100000
set_option linter.unusedVariables false
set_option linter.unusedSimpArgs false

end Go.Vm
namespace Go.Vm
open Go.Proofs
set_option maxRecDepth 100000
set_option linter.unusedVariables false
set_option linter.unusedSimpArgs false

end Go.Vm
namespace Go.Vm
open Go.Proofs
set_option maxRecDepth 100000
set_option linter.unusedVariables false
set_option linter.unusedSimpArgs false

end Go.Vm
namespace Go.Vm
open Go.Proofs
set_option maxRecDepth 100000
set_option linter.unusedVariables false
set_option linter.unusedSimpArgs false

end Go.Vm
namespace Go.Vm
open Go.Proofs
set_option maxRecDepth 100000
set_option linter.unusedVariables false
set_option linter.unusedSimpArgs false

end Go.Vm
namespace Go.Vm
open Go.Proofs
set_option maxRecDepth 100000
set_option linter.unusedVariables false
set_option linter.unusedSimpArgs false

theorem AllR.uniq {N : List NodeX} {l l' : List RngX} (h : AllR N l) (h' : AllR N l') : l = l' := by
  by_cases hT : TreeP N
  · obtain ⟨o, ho, e⟩ := hT
    exact (h.yes o ho e).trans (h'.yes o ho e).symm
  · exact (h.no hT).trans (h'.no hT).symm
theorem AllR.okk {N : List NodeX} {l : List RngX} (h : AllR N l) : PairsOkP l := by
  by_cases hT : TreeP N
  · obtain ⟨o, ho, e⟩ := hT
    rw [h.yes o ho e]; exact ho.ok
  · rw [h.no hT]; exact ⟨by simp, fun p hp => by simp at hp, List.Pairwise.nil⟩
end Go.Vm
namespace Go.Vm
open Go.Proofs
set_option maxRecDepth 100000
set_option linter.unusedVariables false
set_option linter.unusedSimpArgs false

end Go.Vm
namespace Go.Vm
set_option linter.unusedVariables false
set_option linter.unusedSectionVars false
set_option linter.unusedSimpArgs false

section
variable {τ ρ : Type} [DecidableEq τ] (key : τ → ByteArray)
/-- A record: its transaction, its number. -/
abbrev Und (τ ρ : Type) := τ × Nat × ρ
def recsOf (all : List (Und τ ρ)) (x : τ) : List ρ := (List.range 16).flatMap fun n => (all.filter fun u => decide (u.1 = x ∧ u.2.1 = n)).map fun u => u.2.2
/-- What both sides come to: the transactions by their texts, the records of each by their numbers. -/
structure Canon (all : List (Und τ ρ)) (P : List (τ × List ρ)) : Prop where
  srt : P.Pairwise fun p q => strLt (key p.1) (key q.1) = true
  mem : ∀ x, (∃ p ∈ P, p.1 = x) ↔ ∃ u ∈ all, u.1 = x
  recs : ∀ p ∈ P, p.2 = recsOf all p.1
variable {key}
theorem canon_uniq {all : List (Und τ ρ)} (inj : ∀ u v, u ∈ all → v ∈ all → key u.1 = key v.1 → u.1 = v.1) : ∀ {P Q : List (τ × List ρ)}, Canon key all P → Canon key all Q → P = Q := by
  intro P Q hP hQ
  have same : ∀ p ∈ P, p ∈ Q := fun p hp => by
    obtain ⟨q, hq, e⟩ := (hQ.mem p.1).2 ((hP.mem p.1).1 ⟨p, hp, rfl⟩)
    have : p = q := Prod.ext e.symm (by rw [hP.recs p hp, hQ.recs q hq, e])
    rw [this]; exact hq
  have same' : ∀ p ∈ Q, p ∈ P := fun p hp => by
    obtain ⟨q, hq, e⟩ := (hP.mem p.1).2 ((hQ.mem p.1).1 ⟨p, hp, rfl⟩)
    have : p = q := Prod.ext e.symm (by rw [hQ.recs p hp, hP.recs q hq, e])
    rw [this]; exact hq
  have uniq : ∀ (A B : List (τ × List ρ)), (A.Pairwise fun p q => strLt (key p.1) (key q.1) = true) → (B.Pairwise fun p q => strLt (key p.1) (key q.1) = true) → (∀ p, p ∈ A ↔ p ∈ B) → A = B := by
    intro A
    induction A with
    | nil =>
      intro B _ _ h
      cases B with
      | nil => rfl
      | cons b B => exact absurd ((h b).2 (by simp)) (by simp)
    | cons a A ih =>
      intro B hA hB h
      cases B with
      | nil => exact absurd ((h a).1 (by simp)) (by simp)
      | cons b B =>
        have ha := List.pairwise_cons.1 hA
        have hb := List.pairwise_cons.1 hB
        have e : a = b := by
          rcases List.mem_cons.1 ((h a).1 (by simp)) with e | e
          · exact e
          · rcases List.mem_cons.1 ((h b).2 (by simp)) with e2 | e2
            · exact e2.symm
            · have h1 := hb.1 a e
              have h2 := ha.1 b e2
              rw [lt_asym h1] at h2; cases h2
        subst e
        congr 1
        refine ih B ha.2 hb.2 fun p => ?_
        constructor
        · intro hp
          rcases List.mem_cons.1 ((h p).1 (by simp [hp])) with e | e
          · subst e; have := ha.1 p hp; rw [strLt_irrefl] at this; cases this
          · exact e
        · intro hp
          rcases List.mem_cons.1 ((h p).2 (by simp [hp])) with e | e
          · subst e; have := hb.1 p hp; rw [strLt_irrefl] at this; cases this
          · exact e
  exact uniq P Q hP.srt hQ.srt fun p => ⟨same p, same' p⟩
/-! The program: sorted, then cut into groups -/
def addG (g : List (τ × List ρ)) (u : Und τ ρ) : List (τ × List ρ) :=
  match g.getLast? with
  | some p => if p.1 = u.1 then g.dropLast ++ [(p.1, p.2 ++ [u.2.2])] else g ++ [(u.1, [u.2.2])]
  | none => [(u.1, [u.2.2])]
def groups (l : List (Und τ ρ)) : List (τ × List ρ) := l.foldl addG []
def undLt (key : τ → ByteArray) (a b : Und τ ρ) : Prop := strLt (key a.1) (key b.1) = true ∨ a.1 = b.1 ∧ a.2.1 < b.2.1
theorem fm_congr {α β : Type} {f g : α → List β} {l : List α} (h : ∀ x ∈ l, f x = g x) : l.flatMap f = l.flatMap g := by
  induction l with
  | nil => rfl
  | cons a l ih => simp only [List.flatMap_cons]; rw [h a (by simp), ih fun x hx => h x (by simp [hx])]
theorem recsOf_other {l : List (Und τ ρ)} {u : Und τ ρ} {x : τ} (h : u.1 ≠ x) : recsOf (l ++ [u]) x = recsOf l x := by
  unfold recsOf
  refine fm_congr fun n _ => ?_
  rw [List.filter_append]
  simp [h]
theorem recsOf_snoc {l : List (Und τ ρ)} {u : Und τ ρ} (h : ∀ v ∈ l, v.1 = u.1 → v.2.1 < u.2.1) (hk : u.2.1 < 16) : recsOf (l ++ [u]) u.1 = recsOf l u.1 ++ [u.2.2] := by
  have hr : (List.range 16)[u.2.1]? = some u.2.1 := by rw [List.getElem?_range hk]
  have e := at_split hr
  have hA : ∀ n ∈ (List.range 16).take u.2.1, n < u.2.1 := fun n hn => by
    obtain ⟨j, hj⟩ := List.getElem?_of_mem hn
    rw [List.getElem?_take] at hj
    split at hj
    · rename_i hlt
      rw [List.getElem?_range (by omega)] at hj
      cases hj; exact hlt
    · cases hj
  have hB : ∀ n ∈ (List.range 16).drop (u.2.1 + 1), u.2.1 < n := fun n hn => by
    obtain ⟨j, hj⟩ := List.getElem?_of_mem hn
    rw [List.getElem?_drop] at hj
    have hl := (List.getElem?_eq_some_iff.1 hj).1
    rw [List.length_range] at hl
    rw [List.getElem?_range hl] at hj
    cases hj; omega
  have hno : ∀ n, u.2.1 ≤ n → (l.filter fun v => decide (v.1 = u.1 ∧ v.2.1 = n)) = [] := fun n hn => List.filter_eq_nil_iff.2 fun v hv => by
    simp only [decide_eq_true_eq]
    rintro ⟨a, b⟩
    have := h v hv a
    omega
  unfold recsOf
  rw [e, List.flatMap_append, List.flatMap_cons, List.flatMap_append, List.flatMap_cons]
  have e1 : ((List.range 16).take u.2.1).flatMap (fun n => ((l ++ [u]).filter fun v => decide (v.1 = u.1 ∧ v.2.1 = n)).map fun v => v.2.2) = ((List.range 16).take u.2.1).flatMap (fun n => (l.filter fun v => decide (v.1 = u.1 ∧ v.2.1 = n)).map fun v => v.2.2) :=
    fm_congr fun n hn => by
      have := hA n hn
      rw [List.filter_append]
      simp
      omega
  have e2 : ((List.range 16).drop (u.2.1 + 1)).flatMap (fun n => ((l ++ [u]).filter fun v => decide (v.1 = u.1 ∧ v.2.1 = n)).map fun v => v.2.2) = [] := List.flatMap_eq_nil_iff.2 fun n hn => by
    have := hB n hn
    rw [List.filter_append, hno n (by omega)]
    simp
    omega
  have e3 : ((List.range 16).drop (u.2.1 + 1)).flatMap (fun n => (l.filter fun v => decide (v.1 = u.1 ∧ v.2.1 = n)).map fun v => v.2.2) = [] := List.flatMap_eq_nil_iff.2 fun n hn => by
    have := hB n hn
    rw [hno n (by omega)]; rfl
  rw [e1, e2, e3, List.filter_append, hno _ (Nat.le_refl _)]
  simp
theorem perm_le1 {α : Type} {a b : List α} (h : a.Perm b) (hl : a.length ≤ 1) : a = b := by
  match a, b, h, hl with
  | [], b, h, _ => exact (List.nil_perm.1 h).symm ▸ rfl
  | [x], b, h, _ => exact (List.singleton_perm.1 h).symm ▸ rfl
def Dst (l : List (Und τ ρ)) : Prop := l.Pairwise fun a b => ¬ (a.1 = b.1 ∧ a.2.1 = b.2.1)
theorem dst_filter {l : List (Und τ ρ)} (h : Dst l) (x : τ) (n : Nat) : (l.filter fun u => decide (u.1 = x ∧ u.2.1 = n)).length ≤ 1 := by
  have h2 : Dst (l.filter fun u => decide (u.1 = x ∧ u.2.1 = n)) := h.sublist List.filter_sublist
  have hm : ∀ u ∈ (l.filter fun u => decide (u.1 = x ∧ u.2.1 = n)), u.1 = x ∧ u.2.1 = n := fun u hu => by simpa using (List.mem_filter.1 hu).2
  obtain ⟨L, hL⟩ : ∃ L, L = (l.filter fun u => decide (u.1 = x ∧ u.2.1 = n)) := ⟨_, rfl⟩
  rw [← hL] at h2 hm ⊢
  match L, h2, hm with
  | [], _, _ => exact Nat.zero_le _
  | [a], _, _ => exact Nat.le_refl _
  | a :: b :: r, h2, hm =>
    exfalso
    have h3 := (List.pairwise_cons.1 h2).1 b (by simp)
    obtain ⟨a1, a2⟩ := hm a (by simp)
    obtain ⟨b1, b2⟩ := hm b (by simp)
    exact h3 ⟨by rw [a1, b1], by rw [a2, b2]⟩
theorem recsOf_perm {l l' : List (Und τ ρ)} (h : l.Perm l') (hd : Dst l) (x : τ) : recsOf l x = recsOf l' x := by
  unfold recsOf
  refine fm_congr fun n _ => ?_
  congr 1
  exact perm_le1 (h.filter _) (dst_filter hd x n)
theorem recsOf_none {l : List (Und τ ρ)} {x : τ} (h : ∀ v ∈ l, v.1 ≠ x) : recsOf l x = [] := by
  unfold recsOf
  refine List.flatMap_eq_nil_iff.2 fun n _ => ?_
  rw [List.filter_eq_nil_iff.2 fun v hv => by simp only [decide_eq_true_eq]; exact fun e => h v hv e.1]; rfl
theorem und_num {v u : Und τ ρ} (h : undLt key v u) (e : v.1 = u.1) : v.2.1 < u.2.1 := by
  rcases h with h | h
  · rw [e, strLt_irrefl] at h; cases h
  · exact h.2
theorem grp_step {l : List (Und τ ρ)} {g : List (τ × List ρ)} {u : Und τ ρ} (h : Canon key l g) (hu : ∀ v ∈ l, undLt key v u) (hk : u.2.1 < 16) : Canon key (l ++ [u]) (addG g u) := by
  have hnum : ∀ v ∈ l, v.1 = u.1 → v.2.1 < u.2.1 := fun v hv e => und_num (hu v hv) e
  unfold addG
  cases hg : g.getLast? with
  | none =>
    have hg0 : g = [] := by cases g with | nil => rfl | cons a g => simp [List.getLast?] at hg
    subst hg0
    have hl : l = [] := by
      cases l with
      | nil => rfl
      | cons v l =>
        obtain ⟨p, hp, _⟩ := (h.mem v.1).2 ⟨v, by simp, rfl⟩
        simp at hp
    subst hl
    refine ⟨List.pairwise_singleton _ _, fun x => by simp, fun p hp => ?_⟩
    simp at hp; subst hp
    rw [recsOf_snoc hnum hk, recsOf_none (by simp)]; rfl
  | some p =>
    obtain ⟨q, rfl⟩ := List.getLast?_eq_some_iff.1 hg
    have hs := List.pairwise_append.1 h.srt
    simp only [List.dropLast_concat]
    by_cases e : p.1 = u.1
    · rw [if_pos e]
      refine ⟨List.pairwise_append.2 ⟨hs.1, List.pairwise_singleton _ _, fun a ha b hb => ?_⟩, fun x => ?_, fun a ha => ?_⟩
      · simp at hb; subst hb
        exact hs.2.2 a ha p (by simp)
      · rw [show (∃ b ∈ q ++ [(p.1, p.2 ++ [u.2.2])], b.1 = x) ↔ ∃ b ∈ q ++ [p], b.1 = x by
          simp only [List.mem_append, List.mem_singleton]
          constructor
          · rintro ⟨b, hb | rfl, rfl⟩
            · exact ⟨b, .inl hb, rfl⟩
            · exact ⟨p, .inr rfl, rfl⟩
          · rintro ⟨b, hb | rfl, rfl⟩
            · exact ⟨b, .inl hb, rfl⟩
            · exact ⟨_, .inr rfl, rfl⟩, h.mem x]
        simp only [List.mem_append, List.mem_singleton]
        constructor
        · rintro ⟨v, hv, rfl⟩; exact ⟨v, .inl hv, rfl⟩
        · rintro ⟨v, hv | rfl, rfl⟩
          · exact ⟨v, hv, rfl⟩
          · obtain ⟨w, hw, hw2⟩ := (h.mem p.1).1 ⟨p, by simp, rfl⟩
            exact ⟨w, hw, hw2.trans e⟩
      · rcases List.mem_append.1 ha with ha | ha
        · have hne : u.1 ≠ a.1 := fun e2 => by
            have := hs.2.2 a ha p (by simp)
            rw [← e2, ← e, strLt_irrefl] at this; cases this
          rw [recsOf_other hne]; exact h.recs a (by simp [ha])
        · simp at ha; subst ha
          show p.2 ++ [u.2.2] = recsOf (l ++ [u]) p.1
          rw [e, recsOf_snoc hnum hk, ← e, ← h.recs p (by simp)]
    · rw [if_neg e]
      obtain ⟨w, hw, hw2⟩ := (h.mem p.1).1 ⟨p, by simp, rfl⟩
      have hpu : strLt (key p.1) (key u.1) = true := by
        rcases hu w hw with h1 | h1
        · rw [← hw2]; exact h1
        · exact absurd (hw2.symm.trans h1.1) e
      have hall : ∀ a ∈ q ++ [p], strLt (key a.1) (key u.1) = true := fun a ha => by
        rcases List.mem_append.1 ha with ha | ha
        · exact strLt_trans (hs.2.2 a ha p (by simp)) hpu
        · simp at ha; subst ha; exact hpu
      have hnu : ∀ v ∈ l, v.1 ≠ u.1 := fun v hv e2 => by
        obtain ⟨a, ha, ha2⟩ := (h.mem v.1).2 ⟨v, hv, rfl⟩
        have := hall a ha
        rw [ha2, e2, strLt_irrefl] at this; cases this
      refine ⟨List.pairwise_append.2 ⟨h.srt, List.pairwise_singleton _ _, fun a ha b hb => ?_⟩, fun x => ?_, fun a ha => ?_⟩
      · simp at hb; subst hb; exact hall a ha
      · constructor
        · rintro ⟨b, hb, rfl⟩
          rcases List.mem_append.1 hb with hb | hb
          · obtain ⟨v, hv, e2⟩ := (h.mem b.1).1 ⟨b, hb, rfl⟩
            exact ⟨v, by simp [hv], e2⟩
          · simp at hb; subst hb; exact ⟨u, by simp, rfl⟩
        · rintro ⟨v, hv, rfl⟩
          rcases List.mem_append.1 hv with hv | hv
          · obtain ⟨b, hb, e2⟩ := (h.mem v.1).2 ⟨v, hv, rfl⟩
            exact ⟨b, List.mem_append.2 (.inl hb), e2⟩
          · simp at hv; subst hv; exact ⟨(v.1, [v.2.2]), List.mem_append.2 (.inr (by simp)), rfl⟩
      · rcases List.mem_append.1 ha with ha | ha
        · have hne : u.1 ≠ a.1 := fun e2 => by
            have := hall a ha
            rw [e2, strLt_irrefl] at this; cases this
          rw [recsOf_other hne]; exact h.recs a ha
        · simp at ha; subst ha
          show [u.2.2] = recsOf (l ++ [u]) u.1
          rw [recsOf_snoc hnum hk, recsOf_none hnu]; rfl
theorem canon_nil : Canon key ([] : List (Und τ ρ)) [] := ⟨List.Pairwise.nil, fun x => by simp, fun p hp => by simp at hp⟩
theorem groups_take {S : List (Und τ ρ)} (hs : S.Pairwise (undLt key)) (hk : ∀ u ∈ S, u.2.1 < 16) : ∀ i, i ≤ S.length → Canon key (S.take i) (groups (S.take i))
  | 0, _ => canon_nil
  | i + 1, hi => by
    obtain ⟨u, hu⟩ := getL (l := S) (j := i) (by omega)
    have e : S.take (i + 1) = S.take i ++ [u] := by rw [List.take_add_one, hu]; rfl
    have e2 : groups (S.take (i + 1)) = addG (groups (S.take i)) u := by rw [e]; simp [groups]
    rw [e2, e]
    refine grp_step (groups_take hs hk i (by omega)) (fun v hv => ?_) (hk u (List.mem_of_getElem? hu))
    have h2 : (S.take (i + 1)).Pairwise (undLt key) := hs.sublist (List.take_sublist _ _)
    rw [e] at h2
    exact (List.pairwise_append.1 h2).2.2 v hv u (by simp)
theorem groups_perm {S all : List (Und τ ρ)} (hs : S.Pairwise (undLt key)) (hp : S.Perm all) (hk : ∀ u ∈ all, u.2.1 < 16) : Canon key all (groups S) := by
  have h := groups_take hs (fun u hu => hk u (hp.mem_iff.1 hu)) S.length (Nat.le_refl _)
  rw [List.take_length] at h
  have hd : Dst S := hs.imp fun {a b} h e => by
    rcases h with h | h
    · rw [e.1, strLt_irrefl] at h; cases h
    · omega
  refine ⟨h.srt, fun x => (h.mem x).trans ⟨fun ⟨u, a, b⟩ => ⟨u, hp.mem_iff.1 a, b⟩, fun ⟨u, a, b⟩ => ⟨u, hp.mem_iff.2 a, b⟩⟩, fun p hp2 => ?_⟩
  rw [h.recs p hp2, recsOf_perm hp hd]
/-! The specification: one after the other put in at its place -/
structure CanonS (key : τ → ByteArray) (all pre : List (Und τ ρ)) (P : List (τ × List ρ)) : Prop where
  srt : P.Pairwise fun p q => strLt (key p.1) (key q.1) = true
  mem : ∀ x, (∃ p ∈ P, p.1 = x) ↔ ∃ u ∈ pre, u.1 = x
  recs : ∀ p ∈ P, p.2 = recsOf all p.1
theorem CanonS.canon {all : List (Und τ ρ)} {P : List (τ × List ρ)} (h : CanonS key all all P) : Canon key all P := ⟨h.srt, h.mem, h.recs⟩
theorem canonS_nil {all : List (Und τ ρ)} : CanonS key all [] [] := ⟨List.Pairwise.nil, fun x => by simp, fun p hp => by simp at hp⟩
theorem canonS_skip {all pre : List (Und τ ρ)} {P : List (τ × List ρ)} {u : Und τ ρ} (h : CanonS key all pre P) (hu : ∃ p ∈ P, p.1 = u.1) : CanonS key all (pre ++ [u]) P := by
  refine ⟨h.srt, fun x => (h.mem x).trans ⟨fun ⟨v, a, b⟩ => ⟨v, by simp [a], b⟩, fun ⟨v, a, b⟩ => ?_⟩, h.recs⟩
  rcases List.mem_append.1 a with a | a
  · exact ⟨v, a, b⟩
  · simp at a; subst a
    exact (h.mem x).1 (b ▸ hu)
theorem canonS_ins {all pre : List (Und τ ρ)} {P : List (τ × List ρ)} {u : Und τ ρ} {i : Nat} (h : CanonS key all pre P) (hne : ∀ p ∈ P, key p.1 ≠ key u.1) (h1 : ∀ p ∈ P.take i, strLt (key u.1) (key p.1) = false) (h2 : ∀ p, P[i]? = some p → strLt (key u.1) (key p.1) = true) :
    CanonS key all (pre ++ [u]) (P.take i ++ (u.1, recsOf all u.1) :: P.drop i) := by
  have hs : (P.take i ++ P.drop i).Pairwise fun p q => strLt (key p.1) (key q.1) = true := by rw [List.take_append_drop]; exact h.srt
  have hs2 := List.pairwise_append.1 hs
  have hT : ∀ p ∈ P.take i, strLt (key p.1) (key u.1) = true := fun p hp => by
    cases e : strLt (key p.1) (key u.1) with
    | true => rfl
    | false => exact absurd (strLt_tri e (h1 p hp)) (hne p (List.mem_of_mem_take hp))
  have hD : ∀ p ∈ P.drop i, strLt (key u.1) (key p.1) = true := fun p hp => by
    cases e : P.drop i with
    | nil => rw [e] at hp; simp at hp
    | cons p0 r =>
      have h0 : P[i]? = some p0 := by
        have := congrArg (fun l => l[0]?) e
        simpa using this
      rw [e] at hp
      have hs3 := hs2.2.1
      rw [e] at hs3
      rcases List.mem_cons.1 hp with rfl | hp
      · exact h2 _ h0
      · exact strLt_trans (h2 _ h0) ((List.pairwise_cons.1 hs3).1 p hp)
  refine ⟨List.pairwise_append.2 ⟨hs2.1, List.pairwise_cons.2 ⟨hD, hs2.2.1⟩, fun a ha b hb => ?_⟩, fun x => ?_, fun p hp => ?_⟩
  · rcases List.mem_cons.1 hb with rfl | hb
    · exact hT a ha
    · exact hs2.2.2 a ha b hb
  · constructor
    · rintro ⟨p, hp, rfl⟩
      rcases List.mem_append.1 hp with hp | hp
      · obtain ⟨v, a, b⟩ := (h.mem p.1).1 ⟨p, List.mem_of_mem_take hp, rfl⟩
        exact ⟨v, by simp [a], b⟩
      · rcases List.mem_cons.1 hp with rfl | hp
        · exact ⟨u, by simp, rfl⟩
        · obtain ⟨v, a, b⟩ := (h.mem p.1).1 ⟨p, List.mem_of_mem_drop hp, rfl⟩
          exact ⟨v, by simp [a], b⟩
    · rintro ⟨v, hv, rfl⟩
      rcases List.mem_append.1 hv with hv | hv
      · obtain ⟨p, a, b⟩ := (h.mem v.1).2 ⟨v, hv, rfl⟩
        rw [← List.take_append_drop i P] at a
        rcases List.mem_append.1 a with a | a
        · exact ⟨p, by simp [a], b⟩
        · exact ⟨p, by simp [a], b⟩
      · simp at hv; subst hv
        exact ⟨(v.1, recsOf all v.1), by simp, rfl⟩
  · rcases List.mem_append.1 hp with hp | hp
    · exact h.recs p (List.mem_of_mem_take hp)
    · rcases List.mem_cons.1 hp with rfl | hp
      · rfl
      · exact h.recs p (List.mem_of_mem_drop hp)
end
end Go.Vm
namespace Go.Vm
open Go.Proofs
set_option maxRecDepth 100000
set_option linter.unusedVariables false
set_option linter.unusedSimpArgs false

/-- What a pair under 'p' tells. -/
structure UnX where
  key : ByteArray
  tx : TxX
  num : Int
  rr : RecX
def UnX.ds (u : UnX) : List D := [.lf (.string u.key), .lf (.int .i64 u.tx.c), .lf (.int .i64 u.tx.e), .lf (.int .i64 u.tx.n), .lf (.int .i64 u.num), .lf (.int .i64 u.rr.kind), .lf (.string u.rr.key), .lf (.string u.rr.val), .lf (.string u.rr.lo), .lf (.string u.rr.hi)]
structure IsU (p : RngX) (u : UnX) : Prop where
  key : u.key = p.lo
  tx : txOkB u.tx = true
  num : 0 ≤ u.num ∧ u.num < 16
  rc : recOkB u.rr = true
  lo : bs p.lo = 112 :: (bs (txT u.tx) ++ 46 :: bs (numT u.num))
  hi : recT u.rr = p.hi
noncomputable def undP (p : RngX) : Option UnX := haveI := Classical.propDecidable (∃ u, IsU p u); if h : ∃ u, IsU p u then some h.choose else none
theorem undP_is {p : RngX} {u : UnX} (h : undP p = some u) : IsU p u := by
  unfold undP at h
  split at h
  · rename_i hx
    cases h; exact hx.choose_spec
  · cases h
theorem undP_some {p : RngX} {u : UnX} (h : IsU p u) (hu : ∀ v, IsU p v → v = u) : undP p = some u := by
  unfold undP
  have hx : ∃ u, IsU p u := ⟨u, h⟩
  rw [dif_pos hx]
  congr 1
  exact hu _ hx.choose_spec
theorem undP_none {p : RngX} (h : ∀ v, ¬ IsU p v) : undP p = none := by
  unfold undP
  rw [dif_neg fun ⟨v, hv⟩ => h v hv]
theorem last_cut {c : UInt8} : ∀ {A A' B B' : List UInt8}, A ++ c :: B = A' ++ c :: B' → (∀ d ∈ B, d ≠ c) → (∀ d ∈ B', d ≠ c) → A = A' ∧ B = B'
  | [], [], B, B', h, _, _ => by simp at h; exact ⟨rfl, h⟩
  | [], a :: A', B, B', h, h1, _ => by
    simp at h
    exact absurd rfl (h1 c (by rw [h.2]; simp))
  | a :: A, [], B, B', h, _, h2 => by
    simp at h
    exact absurd rfl (h2 c (by rw [← h.2]; simp))
  | a :: A, a' :: A', B, B', h, h1, h2 => by
    simp at h
    obtain ⟨e1, e2⟩ := last_cut (A := A) (A' := A') h.2 h1 h2
    exact ⟨by rw [h.1, e1], e2⟩
theorem num_nat {n : Int} (h : 0 ≤ n ∧ n < 16) : ∃ k : Nat, n = k ∧ k < 16 := ⟨n.toNat, by omega, by omega⟩
theorem numT_dot {n : Int} (h : 0 ≤ n ∧ n < 16) : ∀ d ∈ bs (numT n), d ≠ 46 := by
  obtain ⟨k, rfl, hk⟩ := num_nat h
  rw [numT_yes (by omega), bs_of]
  exact dot_numL
theorem und_fin {p : RngX} {A1 B : List UInt8} (hb : bs p.lo = 112 :: (A1 ++ 46 :: B)) (hB : ∀ d ∈ B, d ≠ 46) {x : TxX} {o1 : Bool} (h1 : TextTxR (ofB A1) x o1) {n : Int} {o2 : Bool} (h2 : TextNumR (ofB B) n o2) {r : RecX} {o3 : Bool} (h3 : TextRecR p.hi r o3) :
    (o1 = true → o2 = true → o3 = true → n < 16 → undP p = some ⟨p.lo, x, n, r⟩) ∧ ((o1 = false ∨ o2 = false ∨ o3 = false ∨ ¬ n < 16) → undP p = none) := by
  have key : ∀ v, IsU p v → (o1 = true ∧ x = v.tx) ∧ (o2 = true ∧ n = v.num) ∧ (o3 = true ∧ r = v.rr) := fun v hv => by
    have e := hv.lo
    rw [hb] at e
    simp only [List.cons.injEq, true_and] at e
    obtain ⟨e1, e2⟩ := last_cut e hB (numT_dot hv.num)
    obtain ⟨k, hk, hk2⟩ := num_nat hv.num
    refine ⟨h1.all v.tx hv.tx (by rw [e1, of_bs]), ?_, h3.all v.rr hv.rc hv.hi⟩
    have := h2.all k (by omega) (by rw [e2, hk, numT_yes (by omega), bs_of])
    exact ⟨this.1, by rw [this.2, hk]⟩
  constructor
  · rintro rfl rfl rfl hn
    obtain ⟨a1, a2⟩ := h1.yes rfl
    obtain ⟨b1, b2⟩ := h2.yes rfl
    obtain ⟨c1, c2⟩ := h3.yes rfl
    have hn0 : 0 ≤ n := by simp [numB] at b1; exact b1.1
    refine undP_some ⟨rfl, a2, ⟨hn0, hn⟩, c1, ?_, c2⟩ fun v hv => ?_
    · show bs p.lo = 112 :: (bs (txT x) ++ 46 :: bs (numT n))
      rw [a1, b2, bs_of, bs_of, hb]
    · obtain ⟨⟨_, e1⟩, ⟨_, e2⟩, _, e3⟩ := key v hv
      obtain ⟨k, t, m, q⟩ := v
      have e0 := hv.key
      simp only at e0 e1 e2 e3
      rw [e0, ← e1, ← e2, ← e3]
  · intro h
    refine undP_none fun v hv => ?_
    obtain ⟨⟨e1, _⟩, ⟨e2, e4⟩, e3, _⟩ := key v hv
    rcases h with h | h | h | h
    · rw [h] at e1; cases e1
    · rw [h] at e2; cases e2
    · rw [h] at e3; cases e3
    · have := hv.num.2; omega
theorem und_no {p : RngX} (h : ∀ A B, bs p.lo = 112 :: (A ++ 46 :: B) → (∀ d ∈ B, d ≠ 46) → False) : undP p = none :=
  undP_none fun v hv => h _ _ hv.lo (numT_dot hv.num)
theorem parts_one {c : UInt8} : ∀ {l p : List UInt8}, parts c l = [p] → l = p ∧ ∀ d ∈ p, d ≠ c
  | [], p, h => by simp [parts] at h; subst h; exact ⟨rfl, by simp⟩
  | d :: l, p, h => by
    unfold parts at h
    split at h
    · simp at h; exact absurd h.2 (parts_ne c l)
    · rename_i hd
      cases e : parts c l with
      | nil => exact absurd e (parts_ne c l)
      | cons q r =>
        rw [e] at h
        simp at h
        obtain ⟨h1, rfl⟩ := h
        obtain ⟨a, b⟩ := parts_one e
        subst h1
        refine ⟨by rw [a], fun x hx => ?_⟩
        rcases List.mem_cons.1 hx with rfl | hx
        · exact hd
        · exact b x hx
theorem parts_more {c : UInt8} : ∀ {l p q : List UInt8} {r : List (List UInt8)}, parts c l = p :: q :: r → ∃ m, l = p ++ c :: m ∧ (∀ d ∈ p, d ≠ c) ∧ parts c m = q :: r
  | [], p, q, r, h => by simp [parts] at h
  | d :: l, p, q, r, h => by
    unfold parts at h
    split at h
    · rename_i hd
      simp at h
      obtain ⟨rfl, h⟩ := h
      exact ⟨l, by rw [hd]; rfl, by simp, h⟩
    · rename_i hd
      cases e : parts c l with
      | nil => exact absurd e (parts_ne c l)
      | cons p' r' =>
        rw [e] at h
        simp at h
        obtain ⟨h1, rfl⟩ := h
        obtain ⟨m, a, b, k⟩ := parts_more e
        subst h1
        refine ⟨m, by rw [a]; rfl, fun x hx => ?_, k⟩
        rcases List.mem_cons.1 hx with rfl | hx
        · exact hd
        · exact b x hx
theorem parts_four {s a b c d : ByteArray} (h : partsT s = [a, b, c, d]) : bs s = (bs a ++ 46 :: (bs b ++ 46 :: bs c)) ++ 46 :: bs d ∧ ∀ x ∈ bs d, x ≠ 46 := by
  unfold partsT at h
  match e : parts 46 (bs s), h with
  | [p, q, r, t], h =>
    simp at h
    obtain ⟨rfl, rfl, rfl, rfl⟩ := h
    obtain ⟨m1, a1, _, e1⟩ := parts_more e
    obtain ⟨m2, a2, _, e2⟩ := parts_more e1
    obtain ⟨m3, a3, _, e3⟩ := parts_more e2
    obtain ⟨a4, b4⟩ := parts_one e3
    subst a4
    rw [bs_of, bs_of, bs_of, bs_of, a1, a2, a3]
    exact ⟨by simp, b4⟩
theorem und_four {p : RngX} {v : UnX} (hv : IsU p v) : ∃ a b c d, partsT p.lo = [a, b, c, d] := by
  obtain ⟨k, hk, hk2⟩ := num_nat hv.num
  obtain ⟨h1, _⟩ := txT_parts hv.tx
  have e1 : bs p.lo = 112 :: (bs (txT v.tx) ++ 46 :: numL k) := by rw [hv.lo, hk, numT_yes (by omega), bs_of]
  match e : parts 46 (bs (txT v.tx)), congrArg List.length h1 with
  | [x, y, z], _ =>
    obtain ⟨m1, a1, n1, q1⟩ := parts_more e
    obtain ⟨m2, a2, n2, q2⟩ := parts_more q1
    obtain ⟨a3, n3⟩ := parts_one q2
    subst a3
    refine ⟨ofB (112 :: x), ofB y, ofB m2, ofB (numL k), ?_⟩
    unfold partsT
    rw [e1, a1, a2]
    have : 112 :: ((x ++ 46 :: (y ++ 46 :: m2)) ++ 46 :: numL k) = (112 :: x) ++ 46 :: (y ++ 46 :: (m2 ++ 46 :: numL k)) := by simp
    rw [this, parts_cut, parts_cut n2, parts_cut n3, parts_plain dot_numL]
    · rfl
    · intro d hd
      rcases List.mem_cons.1 hd with rfl | hd
      · decide
      · exact n1 d hd
  | [], h => simp [partsT, e] at h
  | [_], h => simp [partsT, e] at h
  | [_, _], h => simp [partsT, e] at h
  | _ :: _ :: _ :: _ :: _, h => simp [partsT, e] at h
/-! One transaction, one text -/
theorem numL_inj {a b : Nat} (h : numL a = numL b) : a = b := by rw [← dval_numL a, h, dval_numL]
theorem ofB_inj {a b : List UInt8} (h : ofB a = ofB b) : a = b := by rw [← bs_of a, h, bs_of]
theorem txT_inj {x y : TxX} (hx : txOkB x = true) (hy : txOkB y = true) (h : txT x = txT y) : x = y := by
  have h1 := (txT_parts hx).1
  rw [h, (txT_parts hy).1] at h1
  simp only [List.cons.injEq, and_true] at h1
  obtain ⟨e1, e2, e3⟩ := h1
  obtain ⟨⟨_, x1⟩, ⟨_, x2⟩, _, x3⟩ := tx_num hx
  obtain ⟨⟨_, y1⟩, ⟨_, y2⟩, _, y3⟩ := tx_num hy
  have f1 := numL_inj (ofB_inj e1)
  have f2 := numL_inj (ofB_inj e2)
  have f3 := numL_inj (ofB_inj e3)
  obtain ⟨xc, xe, xn⟩ := x
  obtain ⟨yc, ye, yn⟩ := y
  simp only at *
  congr 1 <;> omega
noncomputable instance : DecidableEq TxX := fun a b => Classical.propDecidable (a = b)
/-- Its transaction, its number, its record. -/
def UnX.u (x : UnX) : Und TxX RecX := (x.tx, x.num.toNat, x.rr)
noncomputable def undL (l : List RngX) : List UnX := l.filterMap undP
theorem undL_ok {l : List RngX} {u : UnX} (h : u ∈ undL l) : ∃ p ∈ l, IsU p u := by
  obtain ⟨p, hp, e⟩ := List.mem_filterMap.1 h
  exact ⟨p, hp, undP_is e⟩
theorem undL_dst {l : List RngX} (h : Srt l) : (undL l).Pairwise fun a b => ¬ (a.tx = b.tx ∧ a.num = b.num) := by
  unfold undL
  refine List.Pairwise.filterMap undP (fun a a' h b hb b' hb' => ?_) h
  rintro ⟨e1, e2⟩
  have h1 := (undP_is hb).lo
  have h2 := (undP_is hb').lo
  rw [e1, e2, ← h2] at h1
  have h3 : a.lo = a'.lo := by rw [← of_bs a.lo, h1, of_bs]
  rw [h3, strLt_irrefl] at h; cases h
/-- What is written for transactions that are ready. -/
def PrepsR (l : List RngX) (P : List (TxX × List RecX)) : Prop := Canon txT ((undL l).map UnX.u) P
theorem PrepsR.same {l : List RngX} {P Q : List (TxX × List RecX)} (h : PrepsR l P) (h' : PrepsR l Q) : P = Q := by
  refine canon_uniq (fun u v hu hv e => ?_) h h'
  obtain ⟨a, ha, rfl⟩ := List.mem_map.1 hu
  obtain ⟨b, hb, rfl⟩ := List.mem_map.1 hv
  obtain ⟨p, _, hp⟩ := undL_ok ha
  obtain ⟨q, _, hq⟩ := undL_ok hb
  exact txT_inj hp.tx hq.tx e
end Go.Vm
namespace Go.Vm
set_option linter.unusedVariables false
set_option linter.unusedSimpArgs false

/-- An order in which some may be alike. -/
structure Swo {α : Type} (lt : α → α → Bool) : Prop where
  irr : ∀ x, lt x x = false
  trans : ∀ x y z, lt x y = true → lt y z = true → lt x z = true
  neg : ∀ x y z, lt x z = true → lt x y = true ∨ lt y z = true
section
variable {α : Type} {lt : α → α → Bool}
def Sd (lt : α → α → Bool) (l : List α) : Prop := l.Pairwise fun x y => lt y x = false
theorem Swo.le (h : Swo lt) {x y z : α} (a : lt y x = false) (b : lt z y = false) : lt z x = false := by
  cases e : lt z x with
  | false => rfl
  | true => rcases h.neg z y x e with c | c
            · rw [c] at b; cases b
            · rw [c] at a; cases a
theorem Swo.lt_le (h : Swo lt) {x y : α} (a : lt x y = true) : lt y x = false := by
  cases e : lt y x with
  | false => rfl
  | true => have := h.trans x y x a e; rw [h.irr] at this; cases this
theorem sd_app {a b : List α} : Sd lt (a ++ b) ↔ Sd lt a ∧ Sd lt b ∧ ∀ x ∈ a, ∀ y ∈ b, lt y x = false := List.pairwise_append
theorem sd_get {l : List α} (h : Sd lt l) {i j : Nat} {x y : α} (hij : i < j) (hx : l[i]? = some x) (hy : l[j]? = some y) : lt y x = false := by
  obtain ⟨h1, rfl⟩ := List.getElem?_eq_some_iff.1 hx
  obtain ⟨h2, rfl⟩ := List.getElem?_eq_some_iff.1 hy
  exact List.pairwise_iff_getElem.1 h i j h1 h2 hij
/-- Two sorted rows, cut so that what lies left is no more than what lies right. -/
theorem sym_cut (o : Swo lt) {X1 X2 Y1 Y2 Z1 Z2 : List α} (hX : Sd lt (X1 ++ X2)) (hY : Sd lt (Y1 ++ Y2)) (h1 : ∀ x ∈ X1, ∀ y ∈ Y2, lt y x = false) (h2 : ∀ y ∈ Y1, ∀ x ∈ X2, lt x y = false)
    (p1 : Z1.Perm (X1 ++ Y1)) (s1 : Sd lt Z1) (p2 : Z2.Perm (X2 ++ Y2)) (s2 : Sd lt Z2) : Sd lt (Z1 ++ Z2) ∧ (Z1 ++ Z2).Perm (X1 ++ X2 ++ (Y1 ++ Y2)) := by
  rw [sd_app] at hX hY
  refine ⟨sd_app.2 ⟨s1, s2, fun x hx y hy => ?_⟩, ?_⟩
  · have hx' := p1.mem_iff.1 hx
    have hy' := p2.mem_iff.1 hy
    rcases List.mem_append.1 hx' with hx' | hx' <;> rcases List.mem_append.1 hy' with hy' | hy'
    · exact hX.2.2 x hx' y hy'
    · exact h1 x hx' y hy'
    · exact h2 x hx' y hy'
    · exact hY.2.2 x hx' y hy'
  · refine (p1.append p2).trans ?_
    rw [List.append_assoc, List.append_assoc]
    refine (List.Perm.refl X1).append ?_
    rw [← List.append_assoc, ← List.append_assoc]
    exact List.perm_append_comm.append_right Y2
/-- From what a search has found: the last of the left part against the first of the right part. -/
theorem cut_le (o : Swo lt) {X Y : List α} (hX : Sd lt X) (hY : Sd lt Y) {i j : Nat} (hi : i ≤ X.length) (h : 0 < i → ∀ x y, X[i - 1]? = some x → Y[j]? = some y → lt y x = false) :
    ∀ x ∈ X.take i, ∀ y ∈ Y.drop j, lt y x = false := by
  intro x hx y hy
  obtain ⟨a, ha⟩ := List.getElem?_of_mem hx
  obtain ⟨b, hb⟩ := List.getElem?_of_mem hy
  rw [List.getElem?_take] at ha
  split at ha
  · rename_i hai
    rw [List.getElem?_drop] at hb
    have hbl := (List.getElem?_eq_some_iff.1 hb).1
    have hal := (List.getElem?_eq_some_iff.1 ha).1
    obtain ⟨y0, hy0⟩ := getL (l := Y) (j := j) (by omega)
    have hl : i - 1 < X.length := by omega
    · obtain ⟨x0, hx0⟩ := getL (l := X) (j := i - 1) hl
      have e1 := h (by omega) x0 y0 hx0 hy0
      have e2 : lt x0 x = false := by
        rcases Nat.lt_or_ge a (i - 1) with h5 | h5
        · exact sd_get hX h5 ha hx0
        · obtain rfl : a = i - 1 := by omega
          rw [ha] at hx0; cases hx0; exact o.irr _
      have e3 : lt y y0 = false := by
        rcases Nat.eq_zero_or_pos b with h5 | h5
        · subst h5; rw [Nat.add_zero, hy0] at hb; cases hb; exact o.irr _
        · exact sd_get hY (by omega) hy0 hb
      exact o.le (o.le e2 e1) e3
  · cases ha
end
/-! Two ranges of a row put in each other's place; a row turned about. -/
def sig (a b n k : Nat) : Nat := if a ≤ k ∧ k < a + n then k - a + b else if b ≤ k ∧ k < b + n then k - b + a else k
def rho (a m b k : Nat) : Nat := if a ≤ k ∧ k < a + (b - m) then k + (m - a) else if a + (b - m) ≤ k ∧ k < b then k - (b - m) else k
theorem rho_gt {m i j k : Nat} (h : j < i) (hi : i ≤ m) : sig (m - i) m j (rho (m - (i - j)) m (m + j) k) = rho (m - i) m (m + j) k := by
  unfold sig rho
  repeat' split
  all_goals omega
theorem rho_lt {m i j k : Nat} (h : i < j) (hi : i ≤ m) : sig (m - i) (m + j - i) i (rho (m - i) m (m + (j - i)) k) = rho (m - i) m (m + j) k := by
  unfold sig rho
  repeat' split
  all_goals omega
theorem rho_eq {m i k : Nat} (hi : i ≤ m) : rho (m - i) m (m + i) k = sig (m - i) m i k := by
  unfold sig rho
  repeat' split
  all_goals omega
section
variable {α : Type}
/-- The first i of two ranges of n are exchanged. -/
def SwTo (l l' : List α) (a b i : Nat) : Prop := l'.length = l.length ∧ ∀ k, l'[k]? = l[sig a b i k]?
theorem swTo_zero (l : List α) (a b : Nat) : SwTo l l a b 0 := ⟨rfl, fun k => by
  have : sig a b 0 k = k := by unfold sig; (repeat' split) <;> omega
  rw [this]⟩
theorem SwTo.step {l l' : List α} {a b i n : Nat} {x y : α} (h : SwTo l l' a b i) (hi : i < n) (hd : a + n ≤ b ∨ b + n ≤ a) (ha : a + n ≤ l.length) (hb : b + n ≤ l.length) (hx : l'[a + i]? = some x) (hy : l'[b + i]? = some y) :
    SwTo l ((l'.set (a + i) y).set (b + i) x) a b (i + 1) := by
  have h1 := h.1
  refine ⟨by simp [h1], fun k => ?_⟩
  have ex : l'[a + i]? = l[a + i]? := by
    rw [h.2]; congr 1; unfold sig; (repeat' split) <;> omega
  have ey : l'[b + i]? = l[b + i]? := by
    rw [h.2]; congr 1; unfold sig; (repeat' split) <;> omega
  rw [List.getElem?_set, List.getElem?_set]
  by_cases e1 : b + i = k
  · subst e1
    rw [if_pos rfl, if_pos (by simp; omega)]
    have : sig a b (i + 1) (b + i) = a + i := by unfold sig; (repeat' split) <;> omega
    rw [this, ← ex, hx]
  · rw [if_neg e1]
    by_cases e2 : a + i = k
    · subst e2
      rw [if_pos rfl, if_pos (by omega)]
      have : sig a b (i + 1) (a + i) = b + i := by unfold sig; (repeat' split) <;> omega
      rw [this, ← ey, hy]
    · rw [if_neg e2, h.2]
      congr 1
      unfold sig; (repeat' split) <;> omega
theorem rot_app {A X Y B l' : List α} (hl : l'.length = (A ++ (X ++ (Y ++ B))).length) (h : ∀ k, l'[k]? = (A ++ (X ++ (Y ++ B)))[rho A.length (A.length + X.length) (A.length + X.length + Y.length) k]?) : l' = A ++ (Y ++ (X ++ B)) := by
  apply List.ext_getElem?
  intro k
  rw [h k]
  unfold rho
  simp only [List.getElem?_append]
  (repeat' split) <;> first | rfl | omega | (congr 1; omega)
end
/-! Insertion: an element walks down a sorted row -/
section
variable {α : Type} {lt : α → α → Bool}
theorem at_cut {l : List α} {k : Nat} {y : α} (h : l[k]? = some y) : l = l.take k ++ y :: l.drop (k + 1) := by
  have hi := (List.getElem?_eq_some_iff.1 h).1
  have h1 := List.drop_eq_getElem_cons hi
  rw [(List.getElem?_eq_some_iff.1 h).2] at h1
  rw [← h1, List.take_append_drop]
theorem ins_swap {A R Z : List α} {k : Nat} {e y : α} (hy : Z[k]? = some y) :
    ((A ++ (insAt Z (k + 1) e ++ R)).set (A.length + (k + 1)) y).set (A.length + k) e = A ++ (insAt Z k e ++ R) := by
  have hi := (List.getElem?_eq_some_iff.1 hy).1
  have e1 : insAt Z (k + 1) e = Z.take k ++ (y :: e :: Z.drop (k + 1)) := by
    unfold insAt
    rw [List.take_add_one, hy]; simp
  have e2 : insAt Z k e = Z.take k ++ (e :: y :: Z.drop (k + 1)) := by
    unfold insAt
    rw [List.drop_eq_getElem_cons hi, (List.getElem?_eq_some_iff.1 hy).2]
  have hl : (Z.take k).length = k := by rw [List.length_take]; omega
  rw [e1, e2, List.set_append_right _ _ (by omega), List.set_append_right _ _ (by omega)]
  simp only [Nat.add_sub_cancel_left, List.append_assoc]
  rw [List.set_append_right _ _ (by omega), List.set_append_right _ _ (by omega), hl, show k + 1 - k = 1 by omega, Nat.sub_self]; rfl
theorem ins_at {A R Z : List α} {k : Nat} {e : α} (hk : k ≤ Z.length) : (A ++ (insAt Z k e ++ R))[A.length + k]? = some e := by
  rw [List.getElem?_append_right (by omega), Nat.add_sub_cancel_left, List.getElem?_append_left (by rw [insAt_len]; omega), insAt_get e hk, if_neg (by omega), if_pos rfl]
theorem ins_below {A R Z : List α} {k : Nat} {e : α} (hk : k + 1 ≤ Z.length) : (A ++ (insAt Z (k + 1) e ++ R))[A.length + k]? = Z[k]? := by
  rw [List.getElem?_append_right (by omega), Nat.add_sub_cancel_left, List.getElem?_append_left (by rw [insAt_len]; omega), insAt_get e hk, if_pos (by omega)]
/-- The element has come to its place. -/
theorem ins_done (o : Swo lt) {Z : List α} {k : Nat} {e : α} (hs : Sd lt Z) (hk : k ≤ Z.length) (h1 : ∀ y ∈ Z.drop k, lt e y = true) (h2 : k = 0 ∨ ∃ y, Z[k - 1]? = some y ∧ lt e y = false) : Sd lt (insAt Z k e) ∧ (insAt Z k e).Perm (Z ++ [e]) := by
  have hZ : Z = Z.take k ++ Z.drop k := (List.take_append_drop k Z).symm
  constructor
  · unfold insAt
    rw [hZ, sd_app] at hs
    rw [sd_app]
    refine ⟨hs.1, List.pairwise_cons.2 ⟨fun y hy => o.lt_le (h1 y hy), hs.2.1⟩, fun x hx y hy => ?_⟩
    have hxe : lt e x = false := by
      rcases h2 with rfl | ⟨z, hz, he⟩
      · simp at hx
      · obtain ⟨a, ha⟩ := List.getElem?_of_mem hx
        rw [List.getElem?_take] at ha
        split at ha
        · rename_i hak
          rcases Nat.lt_or_ge a (k - 1) with h5 | h5
          · have hsZ : Sd lt Z := by rw [hZ, sd_app]; exact hs
            exact o.le (sd_get hsZ h5 ha hz) he
          · obtain rfl : a = k - 1 := by omega
            rw [ha] at hz; cases hz; exact he
        · cases ha
    rcases List.mem_cons.1 hy with rfl | hy
    · exact hxe
    · exact hs.2.2 x hx y hy
  · unfold insAt
    conv => rhs; rw [hZ]
    rw [List.append_assoc]
    refine (List.Perm.refl _).append ?_
    exact List.perm_append_comm (l₁ := [e])
end
end Go.Vm
namespace Go.Vm
open Go.Proofs
set_option maxRecDepth 100000
set_option linter.unusedVariables false
set_option linter.unusedSimpArgs false

/-- A number's digits. -/
def mkL (n : Nat) : List UInt8 := if h : n = 0 then [] else mkL (n / 10) ++ [UInt8.ofNat (48 + n % 10)]
theorem mkL_zero : mkL 0 = [] := by rw [mkL]; simp
theorem mkL_pos {n : Nat} (h : n ≠ 0) : mkL n = mkL (n / 10) ++ [UInt8.ofNat (48 + n % 10)] := by rw [mkL, dif_neg h]
theorem mkL_len {n k : Nat} (h : n < 10 ^ k) : (mkL n).length ≤ k := by
  induction k generalizing n with
  | zero => obtain rfl : n = 0 := by simpa using h
            rw [mkL_zero]; simp
  | succ k ih =>
    by_cases h0 : n = 0
    · subst h0; rw [mkL_zero]; simp
    · rw [mkL_pos h0]
      have := ih (n := n / 10) (by rw [Nat.pow_succ] at h; exact Nat.div_lt_of_lt_mul (by omega))
      simp; omega
/-- The text of a mark. -/
def mkT (n : Int) : ByteArray := if n ≤ 0 then ⟨#[109, 48]⟩ else ofB (109 :: mkL n.toNat)
structure MkX where
  n : Int
  h1 : -9223372036854775808 ≤ n
  h2 : n ≤ 9223372036854775807
theorem ev_markText : ∀ x, evFnX tab [] (pureC MkX [(.rd, false)] [false] (fun x => [[.lf (.int .i64 x.n)]]) (fun x => [[.lf (.string (mkT x.n))]])) Tryz.f39 (body Tryz.f39) x := by
  rintro ⟨n, h1, h2⟩
  conv => whnf
  refine br2 (fun h3 => ?_) (fun h3 => ?_)
  · have h3' : n ≤ 0 := of_decide_eq_true h3
    conv => whnf
    refine ⟨⟨rfl, ?_⟩⟩
    show _ = [[D.lf (.string (mkT n))]]
    rw [mkT, if_pos h3']
  have h3' : ¬ n ≤ 0 := of_decide_eq_false h3
  obtain ⟨k, rfl⟩ : ∃ k : Nat, n = k := ⟨n.toNat, by omega⟩
  conv => whnf
  refine ⟨fun m s h => ∃ (j : Nat) (t : ByteArray), mkL k = mkL j ++ bs t ∧ j ≤ k ∧ m = j ∧ s = [(0, .lf (.int .i64 j)), (3, .lf (.string t))] ∧ h = [],
    k, [], [(0, .lf (.int .i64 k)), (3, .lf (.string ⟨#[]⟩))], [], ⟨rfl, ⟨rfl, rfl, trivial⟩, trivial⟩, ⟨k, ⟨#[]⟩, by simp [bs], Nat.le_refl _, rfl, rfl, rfl⟩, ?_⟩
  rintro m _ _ ⟨j, t, g1, g2, rfl, rfl, rfl⟩
  have hlen := congrArg List.length g1
  have hle : (mkL k).length ≤ 19 := mkL_len (by omega)
  rw [List.length_append, bs_len] at hlen
  conv => whnf
  refine br2 (fun h4 => ?_) (fun h4 => ?_)
  · have h4' : m ≠ 0 := by have := of_decide_eq_true h4; omega
    have e1 : IntKind.u8.wrap (IntKind.i64.wrap (48 + (m : Int).tmod 10)) = ((UInt8.ofNat (48 + m % 10)).toNat : Int) := u8_of (k := 48 + m % 10) (by rw [tmod10, w64 (by omega) (by omega)]; omega) (by omega)
    conv => whnf
    refine ⟨[UInt8.ofNat (48 + m % 10)], by
      show [[D.lf (.int .u8 (IntKind.u8.wrap (IntKind.i64.wrap (48 + (m : Int).tmod 10))))]] = _
      rw [e1]; rfl, ?_⟩
    conv => whnf
    refine ⟨?_, ?_⟩
    · show (ByteArray.mk [UInt8.ofNat (48 + m % 10)].toArray).size + t.size ≤ 4294967296
      show 1 + t.size ≤ 4294967296
      omega
    conv => whnf
    rw [mkL_pos h4'] at g1
    refine ⟨m / 10, [], [(0, .lf (.int .i64 (m / 10 : Nat))), (3, .lf (.string (⟨[UInt8.ofNat (48 + m % 10)].toArray⟩ ++ t)))], [], by omega, ⟨rfl, ⟨?_, rfl, trivial⟩, trivial⟩, m / 10, _, ?_, by omega, rfl, rfl, rfl⟩
    · show V.lf (.int .i64 (IntKind.i64.wrap ((m : Int).tdiv 10))) = _
      rw [tdiv10, w64 (by omega) (by omega)]
    · rw [g1]; simp [bs]
  · have h4' : m = 0 := by have := of_decide_eq_false h4; omega
    subst h4'
    rw [mkL_zero, List.nil_append] at g1
    conv => whnf
    refine ⟨?_, ?_⟩
    · show 1 + t.size ≤ 4294967296
      omega
    conv => whnf
    refine ⟨⟨rfl, ?_⟩⟩
    show [[D.lf (.string (⟨#[109]⟩ ++ t))]] = [[D.lf (.string (mkT (k : Int)))]]
    rw [mkT, if_neg h3', Int.toNat_natCast, g1]
    congr 4
theorem markText_ok : FnOk Tryz.prog 39 (pureC MkX [(.rd, false)] [false] (fun x => [[.lf (.int .i64 x.n)]]) (fun x => [[.lf (.string (mkT x.n))]])) := fnOk_of fun x => fnX_at tab_ok (SOk.nil) mixed (fn := Tryz.f39) (code := body Tryz.f39) ⟨Tryz.func39, rfl, by kernel_rfl, by kernel_rfl, by kernel_rfl, by kernel_rfl⟩ (ev_markText x)

structure MarkX (α : Type) where
  x : α
  k : Int
  h1 : 0 ≤ k
  h2 : k ≤ 1125899906842624
/-- What marks leave behind: the outs, the next number. -/
def cMarkS {X : Type} (sz : Nat) (ds : X → List D) (mark : Int → Nat → List X) (w : Int) : Con :=
  { X := { x : MarkX (List X) // x.x.length ≤ 1048576 }, params := [(.mut, false), (.rd, false)], res := [false], resOwn := true, ins := fun x => [[.row sz ds x.1.x], [.lf (.int .i64 x.1.k)]],
    post := fun x outs r => outs = [[.row sz ds (mark x.1.k x.1.x.length)]] ∧ r = [[.lf (.int .i64 (x.1.k + w * x.1.x.length))]] }
def cHeldS {X : Type} (sz : Nat) (ds : X → List D) (mark : Int → Nat → List X) (w : Int) : Con :=
  { X := { x : MarkX Nat // x.x ≤ 1048576 }, params := [(.rd, false), (.rd, false)], res := [false], resOwn := true, ins := fun x => [[.row sz ds (mark x.1.k x.1.x)], [.lf (.int .i64 x.1.k)]],
    post := fun x outs r => outs = [] ∧ r = [[.lf (.int .i64 (x.1.k + w * x.1.x))]] }
theorem nth_setI {β : Type} {l : List β} {j : Nat} {y : β} (h : j < l.length) : nth (l.set j y) ((j : Nat) : Int).toNat = some y := by
  rw [nth_eq, Int.toNat_natCast, List.getElem?_set_self h]
end Go.Vm
namespace Go.Vm
open Go.Proofs
set_option maxRecDepth 100000
set_option linter.unusedVariables false
set_option linter.unusedSimpArgs false

structure EdX where
  key : ByteArray
  val : ByteArray
  gone : Bool
def EdX.ds (x : EdX) : List D := [.lf (.string x.key), .lf (.string x.val), .lf (.bool x.gone)]
def edB0 (x : EdX) : Prop := x.key.size ≤ maxS ∧ x.val.size ≤ maxS
theorem ev_eqEdit : ∀ x, evFnX tab [] (cEq EdX.ds) Tryz.f36 (body Tryz.f36) x := by
  rintro ⟨⟨a, b, e⟩, ⟨c, d, f⟩⟩
  repeat' ((conv => whnf); refine br2 (fun h => ?_) (fun h => ?_))
  all_goals (conv => whnf)
  all_goals refine ⟨⟨rfl, ?_⟩⟩
  all_goals show _ = [[D.lf (.bool (eqX (⟨a, b, e⟩ : EdX) ⟨c, d, f⟩))]]
  all_goals congr 4
  all_goals rw [eq_comm]
  all_goals simp_all [eqX_iff, eqX_no, strEq_iff, strEq_no]
theorem eqEdit_ok : FnOk Tryz.prog 36 (cEq EdX.ds) := fnOk_of fun x => fnX_at tab_ok (SOk.nil) mixed (fn := Tryz.f36) (code := body Tryz.f36) ⟨Tryz.func36, rfl, by kernel_rfl, by kernel_rfl, by kernel_rfl, by kernel_rfl⟩ (ev_eqEdit x)
theorem ev_eqEditS : ∀ x, evFnX tab [(36, (cEq EdX.ds))] (cEqS 3 EdX.ds) Tryz.f11 (body Tryz.f11) x := by
  rintro ⟨l, m⟩
  conv => whnf
  intro h1
  conv => whnf
  intro h2
  conv => whnf
  refine br2 (fun h3 => ?_) (fun h3 => ?_)
  · conv => whnf
    refine ⟨⟨rfl, ?_⟩⟩
    show _ = [[D.lf (.bool (eqX l m))]]
    have : l ≠ m := by rintro rfl; simp at h3
    rw [eqX_no.2 this]
  have hl : l.length = m.length := by
    replace h3 : ((l.length : Int) != (m.length : Int)) = false := h3
    simp at h3; omega
  conv => whnf
  refine ⟨fun k s h => ∃ i : Nat, i ≤ l.length ∧ (∀ j, j < i → l[j]? = m[j]?) ∧ k = l.length - i ∧ s = [(0, .sl 0 none), (1, .sl 16 none), (5, .lf (.int .i64 i))] ∧ h = [(0, some (.row .lent 3 EdX.ds l)), (16, some (.row .lent 3 EdX.ds m))],
    l.length, [(0, 0), (16, 16)], [(0, .sl 0 none), (1, .sl 16 none), (5, .lf (.int .i64 0))], [(0, some (.row .lent 3 EdX.ds l)), (16, some (.row .lent 3 EdX.ds m))], ⟨rfl, ⟨rfl, rfl, rfl, trivial⟩, ⟨rfl, rfl, trivial⟩⟩, ⟨0, by omega, fun j h => by omega, by omega, rfl, rfl⟩, ?_⟩
  rintro k _ _ ⟨i, g1, g2, rfl, rfl, rfl⟩
  conv => whnf
  intro h4
  conv => whnf
  refine br2 (fun h5 => ?_) (fun h5 => ?_)
  · have hi : i < l.length := by have := of_decide_eq_true h5; omega
    obtain ⟨y, hy⟩ : ∃ y, l[i]? = some y := ⟨_, List.getElem?_eq_getElem hi⟩
    have hy2 : nth l ((i : Nat) : Int).toNat = some y := by rw [nth_eq, Int.toNat_natCast]; exact hy
    obtain ⟨z, hz⟩ : ∃ z, m[i]? = some z := ⟨_, List.getElem?_eq_getElem (by omega)⟩
    have hz2 : nth m ((i : Nat) : Int).toNat = some z := by rw [nth_eq, Int.toNat_natCast]; exact hz
    conv => whnf
    refine ⟨Int.natCast_nonneg _, (show (i : Int) < (l.length : Int) by omega), ?_⟩
    conv => whnf
    refine ex2 y hy2 ?_
    conv => whnf
    refine ⟨Int.natCast_nonneg _, (show (i : Int) < (m.length : Int) by omega), ?_⟩
    conv => whnf
    refine ex2 z hz2 ?_
    conv => whnf
    refine ⟨(y, z), rfl, ?_⟩
    rintro _ _ ⟨rfl, rfl⟩
    conv => whnf
    refine br2 (fun h6 => ?_) (fun h6 => ?_)
    · replace h6 : (!eqX y z) = true := h6
      rw [Bool.not_eq_true', eqX_no] at h6
      conv => whnf
      refine ⟨⟨rfl, ?_⟩⟩
      show _ = [[D.lf (.bool (eqX l m))]]
      have : l ≠ m := by rintro rfl; rw [hy] at hz; cases hz; exact h6 rfl
      rw [eqX_no.2 this]
    · replace h6 : (!eqX y z) = false := h6
      rw [Bool.not_eq_false', eqX_iff] at h6
      conv => whnf
      refine ⟨l.length - (i + 1), [(0, 0), (16, 16)], [(0, .sl 0 none), (1, .sl 16 none), (5, .lf (.int .i64 ((i + 1 : Nat) : Int)))], [(0, some (.row .lent 3 EdX.ds l)), (16, some (.row .lent 3 EdX.ds m))], by omega, ⟨rfl, ⟨rfl, rfl, ?_, trivial⟩, ⟨rfl, rfl, trivial⟩⟩, i + 1, by omega, fun j hj => ?_, rfl, rfl, rfl⟩
      · show V.lf (.int .i64 (IntKind.i64.wrap ((i : Int) + 1))) = _
        replace h4 : l.length ≤ 9223372036854775807 := h4
        rw [w64 (by omega) (by omega)]; rfl
      · rcases Nat.lt_or_ge j i with h7 | h7
        · exact g2 j h7
        · obtain rfl : j = i := by omega
          rw [hy, hz, h6]
  · have hi : i = l.length := by have := of_decide_eq_false h5; omega
    conv => whnf
    refine ⟨⟨rfl, ?_⟩⟩
    show _ = [[D.lf (.bool (eqX l m))]]
    have : l = m := by
      apply List.ext_getElem?
      intro j
      rcases Nat.lt_or_ge j l.length with h | h
      · exact g2 j (by omega)
      · rw [List.getElem?_eq_none h, List.getElem?_eq_none (by omega)]
    rw [eqX_iff.2 this]
theorem eqEditS_ok : FnOk Tryz.prog 11 (cEqS 3 EdX.ds) := fnOk_of fun x => fnX_at tab_ok (SOk.cons eqEdit_ok SOk.nil) mixed (fn := Tryz.f11) (code := body Tryz.f11) ⟨Tryz.func11, rfl, by kernel_rfl, by kernel_rfl, by kernel_rfl, by kernel_rfl⟩ (ev_eqEditS x)
def edAt (k : Int) : EdX := ⟨mkT k, mkT (k + 1), (k + 2).tmod 3 == 0⟩
def markE (k : Int) (n : Nat) : List EdX := (List.range n).map fun i : Nat => edAt (k + 3 * (i : Int))
theorem markE_len (k : Int) (n : Nat) : (markE k n).length = n := by simp [markE]
theorem markE_get {k : Int} {n i : Nat} (h : i < n) : (markE k n)[i]? = some (edAt (k + 3 * (i : Int))) := by simp [markE, h]
theorem eq_markE {l : List EdX} {k : Int} {n : Nat} (h : l.length = n) (h2 : ∀ j, j < n → l[j]? = some (edAt (k + 3 * (j : Int)))) : l = markE k n := by
  apply List.ext_getElem?
  intro j
  by_cases hj : j < n
  · rw [h2 j hj, markE_get hj]
  · rw [List.getElem?_eq_none (by omega), List.getElem?_eq_none (by rw [markE_len]; omega)]
theorem ev_markEditS : ∀ x, evFnX tab [(39, (pureC MkX [(.rd, false)] [false] (fun x => [[.lf (.int .i64 x.n)]]) (fun x => [[.lf (.string (mkT x.n))]])))] (cMarkS 3 EdX.ds markE 3) Tryz.f14 (body Tryz.f14) x := by
  rintro ⟨⟨l, k, h1, h2⟩, hl⟩
  replace hl : l.length ≤ 1048576 := hl
  conv => whnf
  refine ⟨fun m s h => ∃ (i : Nat) (l' : List EdX), i ≤ l.length ∧ l'.length = l.length ∧ (∀ j, j < i → l'[j]? = some (edAt (k + 3 * (j : Int)))) ∧ m = l.length - i ∧ s = [(0, .sl 0 none), (1, .lf (.int .i64 (k + 3 * (i : Int)))), (5, .lf (.int .i64 i)), (1000000, .sl 0 none)] ∧ h = [(0, some (.row .own 3 EdX.ds l'))],
    l.length, [(0, 0)], [(0, .sl 0 none), (1, .lf (.int .i64 k)), (5, .lf (.int .i64 0)), (1000000, .sl 0 none)], [(0, some (.row .own 3 EdX.ds l))], ⟨rfl, ⟨rfl, rfl, rfl, rfl, trivial⟩, rfl, trivial⟩, ⟨0, l, by omega, rfl, fun j h => by omega, by omega, by simp, rfl⟩, ?_⟩
  rintro m _ _ ⟨i, l', g1, g2, g3, rfl, rfl, rfl⟩
  conv => whnf
  intro _
  conv => whnf
  refine br2 (fun h5 => ?_) (fun h5 => ?_)
  · have hi : i < l.length := by have := of_decide_eq_true h5; omega
    have hil : i < l'.length := by omega
    obtain ⟨y, hy⟩ := getL (l := l') (j := i) hil
    have hk0 : 0 ≤ k + 3 * (i : Int) ∧ k + 3 * (i : Int) ≤ 1125899920000000 := by omega
    have hk1 : k + 3 * ((i + 1 : Nat) : Int) = k + 3 * (i : Int) + 3 := by omega
    have g3' : ∀ z, z = edAt (k + 3 * (i : Int)) → ∀ j, j < i + 1 → (l'.set i z)[j]? = some (edAt (k + 3 * (j : Int))) := by
      rintro z rfl j hj
      rw [List.getElem?_set]
      by_cases e : i = j
      · subst e; rw [if_pos rfl, if_pos (by omega)]
      · rw [if_neg e]; exact g3 j (by omega)
    generalize hq : k + 3 * (i : Int) = q at *
    obtain ⟨hq0, hq1⟩ := hk0
    let q1 : Int := IntKind.i64.wrap (q + 1)
    have w1 : q1 = q + 1 := w64 (by omega) (by omega)
    let q2 : Int := IntKind.i64.wrap (q1 + 1)
    have w2 : q2 = q + 2 := by show IntKind.i64.wrap (q1 + 1) = q + 2; rw [w1, w64 (by omega) (by omega)]; omega
    have w3 : IntKind.i64.wrap (q2 + 1) = q + 3 := by rw [w2, w64 (by omega) (by omega)]; omega
    conv => whnf
    refine ⟨⟨q, by omega, by omega⟩, rfl, ?_⟩
    rintro _ _ ⟨rfl, rfl⟩
    conv => whnf
    refine ⟨Int.natCast_nonneg _, (show (i : Int) < (l'.length : Int) by omega), ?_⟩
    conv => whnf
    refine ex2 y (nthI hy) ?_
    conv => whnf
    refine ⟨⟨mkT q, y.val, y.gone⟩, rfl, ?_⟩
    conv => whnf
    refine ⟨⟨q1, by omega, by omega⟩, rfl, ?_⟩
    rintro _ _ ⟨rfl, rfl⟩
    conv => whnf
    refine ⟨Int.natCast_nonneg _, Int.ofNat_lt.2 (by simp only [List.length_set]; exact hil), ?_⟩
    conv => whnf
    refine ex2 _ (nth_setI hil) ?_
    conv => whnf
    refine ⟨⟨mkT q, mkT q1, y.gone⟩, rfl, ?_⟩
    conv => whnf
    refine ⟨Int.natCast_nonneg _, Int.ofNat_lt.2 (by simp only [List.length_set]; exact hil), ?_⟩
    conv => whnf
    refine ex2 _ (nth_setI (by rw [List.length_set]; exact hil)) ?_
    conv => whnf
    refine ⟨⟨mkT q, mkT q1, q2.tmod 3 == 0⟩, rfl, ?_⟩
    conv => whnf
    refine ⟨l.length - (i + 1), [(0, 0)], [(0, .sl 0 none), (1, .lf (.int .i64 (k + 3 * ((i + 1 : Nat) : Int)))), (5, .lf (.int .i64 ((i + 1 : Nat) : Int))), (1000000, .sl 0 none)], [(0, some (.row .own 3 EdX.ds (l'.set i (edAt q))))], by omega, ⟨rfl, ⟨rfl, ?_, ?_, rfl, trivial⟩, ?_, trivial⟩, i + 1, _, by omega, by simp; omega, g3' _ rfl, rfl, rfl, rfl⟩
    · show V.lf (.int .i64 (IntKind.i64.wrap (q2 + 1))) = _
      rw [w3, hk1]
    · show V.lf (.int .i64 (IntKind.i64.wrap ((i : Int) + 1))) = _
      rw [w64 (by omega) (by omega)]; rfl
    · show some (Ob.row .own 3 EdX.ds (((l'.set i _).set i _).set i (⟨mkT q, mkT q1, q2.tmod 3 == 0⟩ : EdX))) = _
      rw [w2, w1, List.set_set, List.set_set]; rfl
  · have hi : i = l.length := by have := of_decide_eq_false h5; omega
    subst hi
    have e1 := eq_markE g2 g3
    conv => whnf
    refine ⟨⟨?_, rfl⟩⟩
    show [[D.row 3 EdX.ds l']] = _
    rw [e1]
theorem markEditS_ok : FnOk Tryz.prog 14 (cMarkS 3 EdX.ds markE 3) := fnOk_of fun x => fnX_at tab_ok (SOk.cons markText_ok SOk.nil) mixed (fn := Tryz.f14) (code := body Tryz.f14) ⟨Tryz.func14, rfl, by kernel_rfl, by kernel_rfl, by kernel_rfl, by kernel_rfl⟩ (ev_markEditS x)
theorem ev_heldEditS : ∀ x, evFnX tab [(39, (pureC MkX [(.rd, false)] [false] (fun x => [[.lf (.int .i64 x.n)]]) (fun x => [[.lf (.string (mkT x.n))]])))] (cHeldS 3 EdX.ds markE 3) Tryz.f15 (body Tryz.f15) x := by
  rintro ⟨⟨n, k, h1, h2⟩, hn⟩
  replace hn : n ≤ 1048576 := hn
  conv => whnf
  refine ⟨fun m s h => ∃ (i : Nat), i ≤ n ∧ m = n - i ∧ s = [(0, .sl 0 none), (1, .lf (.int .i64 (k + 3 * (i : Int)))), (5, .lf (.int .i64 i))] ∧ h = [(0, some (.row .lent 3 EdX.ds (markE k n)))],
    n, [(0, 0)], [(0, .sl 0 none), (1, .lf (.int .i64 k)), (5, .lf (.int .i64 0))], [(0, some (.row .lent 3 EdX.ds (markE k n)))], ⟨rfl, ⟨rfl, rfl, rfl, trivial⟩, rfl, trivial⟩, ⟨0, by omega, by omega, by simp, rfl⟩, ?_⟩
  rintro m _ _ ⟨i, g1, rfl, rfl, rfl⟩
  have hL : (markE k n).length = n := markE_len k n
  conv => whnf
  intro _
  conv => whnf
  refine br2 (fun h5 => ?_) (fun h5 => ?_)
  · have hi : i < n := by have := of_decide_eq_true h5; omega
    have hy := nthI (markE_get (k := k) hi)
    have hlt : (i : Int) < ((markE k n).length : Int) := by omega
    have hk0 : 0 ≤ k + 3 * (i : Int) ∧ k + 3 * (i : Int) ≤ 1125899920000000 := by omega
    have hk1 : k + 3 * ((i + 1 : Nat) : Int) = k + 3 * (i : Int) + 3 := by omega
    generalize hq : k + 3 * (i : Int) = q at *
    obtain ⟨hq0, hq1⟩ := hk0
    let q1 : Int := IntKind.i64.wrap (q + 1)
    have w1 : q1 = q + 1 := w64 (by omega) (by omega)
    let q2 : Int := IntKind.i64.wrap (q1 + 1)
    have w2 : q2 = q + 2 := by show IntKind.i64.wrap (q1 + 1) = q + 2; rw [w1, w64 (by omega) (by omega)]; omega
    have w3 : IntKind.i64.wrap (q2 + 1) = q + 3 := by rw [w2, w64 (by omega) (by omega)]; omega
    conv => whnf
    refine ⟨Int.natCast_nonneg _, hlt, ?_⟩
    conv => whnf
    refine ex2 _ hy ?_
    conv => whnf
    repeat (refine rc_i (by (conv => whnf); first | rfl | exact ⟨Int.natCast_nonneg _, hlt, rfl⟩ | exact ex2 _ hy rfl) ?_; conv => whnf)
    refine ⟨⟨q, by omega, by omega⟩, rfl, ?_⟩
    rintro _ _ ⟨rfl, rfl⟩
    conv => whnf
    repeat (refine rc_i (by (conv => whnf); first | rfl | exact ⟨Int.natCast_nonneg _, hlt, rfl⟩ | exact ex2 _ hy rfl) ?_; conv => whnf)
    refine br2 (fun h => ?_) (fun _ => ?_)
    · exfalso
      replace h : (!strEq (mkT q) (mkT q)) = true := h
      rw [strEq_refl] at h; cases h
    conv => whnf
    refine ⟨Int.natCast_nonneg _, hlt, ?_⟩
    conv => whnf
    refine ex2 _ hy ?_
    conv => whnf
    repeat (refine rc_i (by (conv => whnf); first | rfl | exact ⟨Int.natCast_nonneg _, hlt, rfl⟩ | exact ex2 _ hy rfl) ?_; conv => whnf)
    refine ⟨⟨q1, by omega, by omega⟩, rfl, ?_⟩
    rintro _ _ ⟨rfl, rfl⟩
    conv => whnf
    repeat (refine rc_i (by (conv => whnf); first | rfl | exact ⟨Int.natCast_nonneg _, hlt, rfl⟩ | exact ex2 _ hy rfl) ?_; conv => whnf)
    refine br2 (fun h => ?_) (fun _ => ?_)
    · exfalso
      replace h : (!strEq (mkT (q + 1)) (mkT q1)) = true := h
      rw [w1, strEq_refl] at h; cases h
    conv => whnf
    refine ⟨Int.natCast_nonneg _, hlt, ?_⟩
    conv => whnf
    refine ex2 _ hy ?_
    conv => whnf
    repeat (refine rc_i (by (conv => whnf); first | rfl | exact ⟨Int.natCast_nonneg _, hlt, rfl⟩ | exact ex2 _ hy rfl) ?_; conv => whnf)
    refine br2 (fun h => ?_) (fun _ => ?_)
    · exfalso
      replace h : (!(((q + 2).tmod 3 == 0) == (q2.tmod 3 == 0))) = true := h
      rw [w2] at h; simp at h
    conv => whnf
    refine ⟨n - (i + 1), [(0, 0)], [(0, .sl 0 none), (1, .lf (.int .i64 (k + 3 * ((i + 1 : Nat) : Int)))), (5, .lf (.int .i64 ((i + 1 : Nat) : Int)))], [(0, some (.row .lent 3 EdX.ds (markE k n)))], by omega, ⟨rfl, ⟨rfl, ?_, ?_, trivial⟩, rfl, trivial⟩, i + 1, by omega, rfl, rfl, rfl⟩
    · show V.lf (.int .i64 (IntKind.i64.wrap (q2 + 1))) = _
      rw [w3, hk1]
    · show V.lf (.int .i64 (IntKind.i64.wrap ((i : Int) + 1))) = _
      rw [w64 (by omega) (by omega)]; rfl
  · have hi : i = n := by have := of_decide_eq_false h5; omega
    subst hi
    conv => whnf
    exact ⟨⟨rfl, rfl⟩⟩
theorem heldEditS_ok : FnOk Tryz.prog 15 (cHeldS 3 EdX.ds markE 3) := fnOk_of fun x => fnX_at tab_ok (SOk.cons markText_ok SOk.nil) mixed (fn := Tryz.f15) (code := body Tryz.f15) ⟨Tryz.func15, rfl, by kernel_rfl, by kernel_rfl, by kernel_rfl, by kernel_rfl⟩ (ev_heldEditS x)
end Go.Vm
namespace Go.Vm
open Go.Proofs
set_option maxRecDepth 100000
set_option linter.unusedVariables false
set_option linter.unusedSimpArgs false

end Go.Vm
namespace Go.Vm
open Go.Proofs Go.RowKit Go.Lib Go.Sort
set_option linter.unusedVariables false
set_option linter.unusedSimpArgs false
end Go.Vm
namespace Go.Vm
open Go.Proofs Go.RowKit
set_option maxRecDepth 100000
set_option linter.unusedVariables false
set_option linter.unusedSimpArgs false

end Go.Vm
namespace Go.Vm
open Go.Proofs
set_option maxRecDepth 100000
set_option linter.unusedVariables false
set_option linter.unusedSimpArgs false

set_option maxHeartbeats 4000000
end Go.Vm
namespace Go.Vm
open Go.Proofs
set_option maxRecDepth 100000
set_option linter.unusedVariables false
set_option linter.unusedSimpArgs false

end Go.Vm
namespace Go.Vm
open Go.Proofs
set_option maxRecDepth 100000
set_option linter.unusedVariables false
set_option linter.unusedSimpArgs false

/-! The data of a tree's pairs behind edits -/
theorem head_bt {s : ByteArray} {b : UInt8} {r : List UInt8} (h : bs s = b :: r) : bt s 0 = (b.toNat : Int) := by
  show ((s.data.toList.getD (0 : Int).toNat 0).toNat : Int) = _
  have : s.data.toList = b :: r := h
  rw [this]; rfl
end Go.Vm
namespace Go.Vm
open Go.Proofs
set_option maxRecDepth 100000
set_option linter.unusedVariables false
set_option linter.unusedSimpArgs false

/-- The place of the last dot. -/
def LastR (s : ByteArray) (i : Int) : Prop := (i = -1 ∧ ∀ d ∈ bs s, d ≠ 46) ∨ ∃ A B, bs s = A ++ 46 :: B ∧ (∀ d ∈ B, d ≠ 46) ∧ i = A.length
def cLastB : Con := relC SplX [(.rd, false), (.rd, false)] [false] (fun s => [[.lf (.string s.s)], [.lf (.int .u8 46)]]) (fun s r => ∃ i : Int, r = [[.lf (.int .i64 i)]] ∧ LastR s.s i)
def cLastI : Con := relC SplX [(.rd, false), (.rd, false)] [false] (fun s => [[.lf (.string s.s)], [.lf (.string ⟨#[46]⟩)]]) (fun s r => ∃ i : Int, r = [[.lf (.int .i64 i)]] ∧ LastR s.s i)
theorem bt_at {s : ByteArray} {i : Nat} {d : UInt8} (h : (bs s)[i]? = some d) : bt s (i : Int) = (d.toNat : Int) := by rw [bt_bsD, List.getD_eq_getElem?_getD, h]; rfl
theorem ev_lastB : ∀ x, evFnX tab [] cLastB Tryz.f175 (body Tryz.f175) x := by
  rintro ⟨s, hs⟩
  conv => whnf
  let S0 : Int → Sl := fun n => [(5, .lf (.int .i64 n)), (1, .lf (.int .u8 46)), (0, .lf (.string s))]
  have w0 : IntKind.i64.wrap ((s.size : Int) - 1) = (s.size : Int) - 1 := w64 (by omega) (by omega)
  refine ⟨fun m st h => ∃ (j : Nat) (n : Int), n = (j : Int) - 1 ∧ j ≤ s.size ∧ (∀ k d, j ≤ k → (bs s)[k]? = some d → d ≠ 46) ∧ m = j ∧ st = S0 n ∧ h = [], s.size, [], S0 ((s.size : Int) - 1), [], ⟨rfl, ⟨(show V.lf (.int .i64 (IntKind.i64.wrap ((s.size : Int) - 1))) = _ by rw [w0]), rfl, rfl, trivial⟩, trivial⟩, ⟨s.size, _, rfl, Nat.le_refl _, fun k d hk hd => ?_, rfl, rfl, rfl⟩, ?_⟩
  · have := (List.getElem?_eq_some_iff.1 hd).1
    rw [bs_len] at this; omega
  rintro m _ _ ⟨j, n, rfl0, g1, g2, rfl, rfl, rfl⟩
  conv => whnf
  refine br2 (fun h5 => ?_) (fun h5 => ?_)
  · have h5' : n ≥ 0 := of_decide_eq_true h5
    obtain ⟨i, rfl⟩ : ∃ i, m = i + 1 := ⟨m - 1, by omega⟩
    have hn : n = (i : Int) := by omega
    obtain ⟨d, hd⟩ := getL (l := bs s) (show i < (bs s).length by rw [bs_len]; omega)
    have hb := bt_at hd
    rw [← hn] at hb
    conv => whnf
    refine ⟨h5', (show n < (s.size : Int) by omega), ?_⟩
    conv => whnf
    refine br2 (fun h6 => ?_) (fun h6 => ?_)
    · have h7 : bt s n = 46 := by simpa using h6
      have hd46 : d = 46 := by
        apply UInt8.toNat_inj.1
        show d.toNat = 46
        omega
      subst hd46
      conv => whnf
      refine ⟨⟨rfl, n, rfl, .inr ⟨(bs s).take i, (bs s).drop (i + 1), at_cut hd, fun x hx => ?_, ?_⟩⟩⟩
      · obtain ⟨q, hq⟩ := List.getElem?_of_mem hx
        rw [List.getElem?_drop] at hq
        exact g2 (i + 1 + q) x (by omega) hq
      · rw [List.length_take, bs_len]; omega
    · have h7 : bt s n ≠ 46 := by simpa using h6
      conv => whnf
      refine ⟨i, [], S0 (n - 1), [], by omega, ⟨rfl, ⟨(show V.lf (.int .i64 (IntKind.i64.wrap (n - 1))) = _ by rw [w64 (by omega) (by omega)]), rfl, rfl, trivial⟩, trivial⟩, i, n - 1, by omega, by omega, fun k x hk hx => ?_, rfl, rfl, rfl⟩
      rcases Nat.lt_or_ge i k with h8 | h8
      · exact g2 k x (by omega) hx
      · obtain rfl : k = i := by omega
        rw [hd] at hx; cases hx
        rintro rfl
        exact h7 (by rw [hb]; rfl)
  · have h5' : ¬ n ≥ 0 := of_decide_eq_false h5
    conv => whnf
    refine ⟨⟨rfl, -1, rfl, .inl ⟨rfl, fun x hx => ?_⟩⟩⟩
    obtain ⟨q, hq⟩ := List.getElem?_of_mem hx
    exact g2 q x (by omega) hq
theorem lastB_ok : FnOk Tryz.prog 175 cLastB := fnOk_of fun x => fnX_at tab_ok (SOk.nil) mixed (fn := Tryz.f175) (code := body Tryz.f175) ⟨Tryz.func175, rfl, by kernel_rfl, by kernel_rfl, by kernel_rfl, by kernel_rfl⟩ (ev_lastB x)
theorem ev_lastI : ∀ x, evFnX tab [(175, cLastB)] cLastI Tryz.f129 (body Tryz.f129) x := by
  rintro ⟨s, hs⟩
  conv => whnf
  refine ⟨by decide, by decide, ?_⟩
  conv => whnf
  refine ⟨⟨s, hs⟩, rfl, ?_⟩
  rintro _ _ ⟨rfl, i, rfl, hi⟩
  conv => whnf
  exact ⟨⟨rfl, i, rfl, hi⟩⟩
theorem lastI_ok : FnOk Tryz.prog 129 cLastI := fnOk_of fun x => fnX_at tab_ok (SOk.cons lastB_ok SOk.nil) mixed (fn := Tryz.f129) (code := body Tryz.f129) ⟨Tryz.func129, rfl, by kernel_rfl, by kernel_rfl, by kernel_rfl, by kernel_rfl⟩ (ev_lastI x)
structure PrX where
  p : RngX
  h1 : 1 ≤ p.lo.size
  h2 : p.lo.size ≤ 1048576
  h3 : p.hi.size ≤ 1048576
def cUnder : Con := relC PrX [(.rd, true)] [true, false] (fun x => [x.p.ds]) (fun x r => ∃ (u : UnX) (ok : Bool), r = [u.ds, [.lf (.bool ok)]] ∧ (ok = true → undP x.p = some u) ∧ (ok = false → undP x.p = none))
def un0 : UnX := ⟨⟨#[]⟩, tx0, 0, rec0⟩
theorem bs_ext {s : ByteArray} {A B : List UInt8} (h : bs s = A ++ 46 :: B) : s.extract 1 A.length = ofB (A.drop 1) ∧ s.extract (A.length + 1) s.size = ofB B := by
  rw [← cut_eq, ← cut_eq, h, List.take_left]
  refine ⟨rfl, ?_⟩
  rw [← bs_len, h, List.take_length]
  congr 1
  rw [List.drop_append]
  have : A.drop (A.length + 1) = [] := List.drop_eq_nil_of_le (by omega)
  rw [this, show A.length + 1 - A.length = 1 by omega]; rfl
theorem ev_iUnderOf : ∀ x, evFnX tab [(129, cLastI), (108, cTextTx), (130, cTextNum), (131, cTextRec)] cUnder Tryz.f77 (body Tryz.f77) x := by
  rintro ⟨⟨k, v⟩, h1, h2, h3⟩
  replace h1 : 1 ≤ k.size := h1
  replace h2 : k.size ≤ 1048576 := h2
  replace h3 : v.size ≤ 1048576 := h3
  have hsz : (0 : Int) < (k.size : Int) := by omega
  conv => whnf
  refine ⟨⟨k, h2⟩, rfl, ?_⟩
  rintro _ _ ⟨rfl, i, rfl, hi⟩
  conv => whnf
  replace hi : LastR k i := hi
  refine ⟨Int.le_refl _, hsz, ?_⟩
  conv => whnf
  refine br2 (fun h5 => ?_) (fun h5 => ?_)
  · have h6 : bt k 0 ≠ 112 := by
      replace h5 : (bt k 0 != 112) = true := h5
      simpa using h5
    conv => whnf
    exact ⟨⟨rfl, un0, false, rfl, fun e => (by cases e), fun _ => und_no fun A B e _ => h6 (head_bt e)⟩⟩
  have h6 : bt k 0 = 112 := by
    replace h5 : (bt k 0 != 112) = false := h5
    simpa using h5
  conv => whnf
  refine br2 (fun h7 => ?_) (fun h7 => ?_)
  · have h7' : i < 1 := of_decide_eq_true h7
    conv => whnf
    refine ⟨⟨rfl, un0, false, rfl, fun e => (by cases e), fun _ => und_no fun A B e hB => ?_⟩⟩
    replace e : bs k = 112 :: (A ++ 46 :: B) := e
    rcases hi with ⟨_, h8⟩ | ⟨A', B', e', hB', hi'⟩
    · exact h8 46 (by rw [e]; simp) rfl
    · rw [e'] at e
      have := (last_cut (A' := 112 :: A) e hB' hB).1
      rw [this] at hi'
      simp at hi'; omega
  have h7' : ¬ i < 1 := of_decide_eq_false h7
  obtain ⟨A', B, e', hB, hi'⟩ : ∃ A B, bs k = A ++ 46 :: B ∧ (∀ d ∈ B, d ≠ 46) ∧ i = A.length := by
    rcases hi with ⟨h8, _⟩ | h8
    · omega
    · exact h8
  obtain ⟨A, rfl⟩ : ∃ A, A' = 112 :: A := by
    cases A' with
    | nil => simp at hi'; omega
    | cons a A =>
      refine ⟨A, ?_⟩
      have := head_bt e'
      rw [h6] at this
      have : a = 112 := by
        apply UInt8.toNat_inj.1
        show a.toNat = 112
        omega
      rw [this]
  have hlen := congrArg List.length e'
  rw [bs_len, List.length_append] at hlen
  simp only [List.length_cons] at hlen hi'
  have wi : IntKind.i64.wrap (i + 1) = i + 1 := w64 (by omega) (by omega)
  obtain ⟨x1, x2⟩ := bs_ext e'
  have y1 : k.extract (1 : Int).toNat i.toNat = ofB A := by
    rw [show i.toNat = (112 :: A : List UInt8).length by simp; omega]; exact x1
  have y2 : k.extract (IntKind.i64.wrap (i + 1)).toNat ((k.size : Nat) : Int).toNat = ofB B := by
    rw [wi, show (i + 1).toNat = (112 :: A : List UInt8).length + 1 by simp; omega, Int.toNat_natCast]; exact x2
  have z1 : (k.extract (1 : Int).toNat i.toNat).size ≤ 1048576 := by rw [y1, of_size]; omega
  have eb : bs (⟨k, v⟩ : RngX).lo = 112 :: (A ++ 46 :: B) := e'
  conv => whnf
  refine ⟨by decide, (show (1 : Int) ≤ i by omega), (show i ≤ (k.size : Int) by omega), ?_⟩
  conv => whnf
  refine ⟨⟨_, z1⟩, rfl, ?_⟩
  rintro _ _ ⟨rfl, x, o1, rfl, hx⟩
  replace hx : TextTxR (k.extract (1 : Int).toNat i.toNat) x o1 := hx
  rw [y1] at hx
  conv => whnf
  refine ⟨(show (0 : Int) ≤ IntKind.i64.wrap (i + 1) by rw [wi]; omega), (show IntKind.i64.wrap (i + 1) ≤ (k.size : Int) by rw [wi]; omega), Int.le_refl _, ?_⟩
  conv => whnf
  refine ⟨_, rfl, ?_⟩
  rintro _ _ ⟨rfl, n, o2, rfl, hn⟩
  replace hn : TextNumR (k.extract (IntKind.i64.wrap (i + 1)).toNat ((k.size : Nat) : Int).toNat) n o2 := hn
  rw [y2] at hn
  conv => whnf
  refine ⟨⟨v, by omega⟩, rfl, ?_⟩
  rintro _ _ ⟨rfl, r, o3, rfl, hr⟩
  obtain ⟨f1, f2⟩ := und_fin (p := ⟨k, v⟩) eb hB hx hn hr
  cases o1 with
  | false =>
    conv => whnf
    exact ⟨⟨rfl, ⟨k, x, n, r⟩, false, rfl, fun e => (by cases e), fun _ => f2 (.inl rfl)⟩⟩
  | true =>
    cases o2 with
    | false =>
      conv => whnf
      exact ⟨⟨rfl, ⟨k, x, n, r⟩, false, rfl, fun e => (by cases e), fun _ => f2 (.inr (.inl rfl))⟩⟩
    | true =>
      conv => whnf
      refine br2 (fun h8 => ?_) (fun h8 => ?_)
      · cases o3 with
        | false =>
          conv => whnf
          exact ⟨⟨rfl, ⟨k, x, n, r⟩, false, rfl, fun e => (by cases e), fun _ => f2 (.inr (.inr (.inl rfl)))⟩⟩
        | true =>
          conv => whnf
          exact ⟨⟨rfl, ⟨k, x, n, r⟩, true, rfl, fun _ => f1 rfl rfl rfl (of_decide_eq_true h8), fun e => (by cases e)⟩⟩
      · conv => whnf
        exact ⟨⟨rfl, ⟨k, x, n, r⟩, false, rfl, fun e => (by cases e), fun _ => f2 (.inr (.inr (.inr (of_decide_eq_false h8))))⟩⟩
theorem iUnderOf_ok : FnOk Tryz.prog 77 cUnder := fnOk_of fun x => fnX_at tab_ok (SOk.cons lastI_ok (SOk.cons iTextTx_ok (SOk.cons iTextNum_ok (SOk.cons iTextRec_ok SOk.nil)))) mixed (fn := Tryz.f77) (code := body Tryz.f77) ⟨Tryz.func77, rfl, by kernel_rfl, by kernel_rfl, by kernel_rfl, by kernel_rfl⟩ (ev_iUnderOf x)
structure PrsX2 where
  l : List RngX
  h : PairsOkP l
theorem pairs_prX {l : List RngX} (h : PairsOkP l) {p : RngX} (hp : p ∈ l) : 1 ≤ p.lo.size ∧ p.lo.size ≤ 1048576 ∧ p.hi.size ≤ 1048576 := by
  have := h.ok p hp
  simp [kvOkB, keyOkB] at this
  omega
theorem undL_take {l : List RngX} {i : Nat} {y : RngX} (h : l[i]? = some y) : undL (l.take (i + 1)) = undL (l.take i) ++ (undP y).toList := by
  unfold undL
  rw [List.take_add_one, h, List.filterMap_append]
  cases e : undP y <;> simp [e]
theorem undL_len (l : List RngX) : (undL l).length ≤ l.length := List.length_filterMap_le _ _
noncomputable def cUnders : Con := pureC PrsX2 [(.rd, false)] [false] (fun x => [[.row 2 RngX.ds x.l]]) (fun x => [[.row 10 UnX.ds (undL x.l)]])
theorem ev_iUnders : ∀ x, evFnX tab [(1000002, cGh), (77, cUnder)] cUnders Tryz.f35 (body Tryz.f35) x := by
  rintro ⟨l, hP⟩
  have hl : l.length ≤ 200 := hP.len
  conv => whnf
  refine ⟨[.row 128], ?_⟩
  conv => whnf
  refine ⟨UnX, UnX.ds, [], fun _ => rfl, rfl, ?_⟩
  conv => whnf
  intro _
  conv => whnf
  let S0 : Nat → Sl := fun i => [(11, .lf (.int .i64 i)), (10, .lf (.int .i64 l.length)), (9, .sl 0 none), (3, .sl 128 none)]
  let H0 : List UnX → Hp := fun q => [(0, some (.row .lent 2 RngX.ds l)), (128, some (.row .own 10 UnX.ds q))]
  refine ⟨fun m s h => ∃ i : Nat, i ≤ l.length ∧ m = l.length - i ∧ s = S0 i ∧ h = H0 (undL (l.take i)), l.length, [(0, 0), (128, 128)], S0 0, H0 [], ⟨rfl, ⟨rfl, rfl, rfl, rfl, trivial⟩, rfl, rfl, trivial⟩, ⟨0, by omega, by omega, rfl, rfl⟩, ?_⟩
  rintro m _ _ ⟨i, g1, rfl, rfl, rfl⟩
  have hul := undL_len (l.take i)
  rw [List.length_take] at hul
  conv => whnf
  refine br2 (fun h5 => ?_) (fun h5 => ?_)
  · have hi : i < l.length := by have := of_decide_eq_true h5; omega
    obtain ⟨y, hy⟩ := getL hi
    obtain ⟨b1, b2, b3⟩ := pairs_prX hP (List.mem_of_getElem? hy)
    have hT := undL_take hy
    have hinc := incI hi (show l.length ≤ 9223372036854775807 by omega)
    have back : ∀ {s' : Sl} {h' : Hp} (ρ : List (Nat × Nat)), Le ρ (S0 (i + 1)) (H0 (undL (l.take (i + 1)))) s' h' → ∃ m' ρ s'' h'', m' < l.length - i ∧ Le ρ s'' h'' s' h' ∧ ∃ i, i ≤ l.length ∧ m' = l.length - i ∧ s'' = S0 i ∧ h'' = H0 (undL (l.take i)) := fun ρ hle =>
      ⟨l.length - (i + 1), ρ, _, _, by omega, hle, i + 1, hi, rfl, rfl, rfl⟩
    conv => whnf
    refine ⟨Int.natCast_nonneg _, ltI hy, ?_⟩
    conv => whnf
    refine ex2 _ (nthI hy) ?_
    conv => whnf
    refine ⟨⟨y, b1, b2, b3⟩, rfl, ?_⟩
    rintro _ _ ⟨rfl, u, ok, rfl, k1, k2⟩
    conv => whnf
    replace k1 : ok = true → undP y = some u := k1
    replace k2 : ok = false → undP y = none := k2
    cases ok with
    | true =>
      rw [k1 rfl] at hT
      conv => whnf
      refine ⟨[u], rfl, (show (undL (l.take i)).length + 1 ≤ 4294967296 by omega), ?_⟩
      conv => whnf
      refine back [(0, 0), (384, 128)] ⟨rfl, ⟨hinc, rfl, rfl, rfl, trivial⟩, rfl, ?_, trivial⟩
      rw [hT]; rfl
    | false =>
      rw [k2 rfl, Option.toList, List.append_nil] at hT
      conv => whnf
      refine back [(0, 0), (128, 128)] ⟨rfl, ⟨hinc, rfl, rfl, rfl, trivial⟩, rfl, ?_, trivial⟩
      rw [hT]; rfl
  · have hi : i = l.length := by have := of_decide_eq_false h5; omega
    subst hi
    conv => whnf
    refine ⟨⟨rfl, ?_⟩⟩
    show [[D.row 10 UnX.ds (undL (l.take l.length))]] = [[D.row 10 UnX.ds (undL l)]]
    rw [List.take_length]
theorem iUnders_ok : FnOk Tryz.prog 35 cUnders := fnOk_of fun x => fnX_at tab_ok (SOk.cons gh_ok (SOk.cons iUnderOf_ok SOk.nil)) mixed (fn := Tryz.f35) (code := body Tryz.f35) ⟨Tryz.func35, rfl, by kernel_rfl, by kernel_rfl, by kernel_rfl, by kernel_rfl⟩ (ev_iUnders x)
def cRead8 : Con := relC PrX [(.rd, true)] [true, false, true, false] (fun x => [x.p.ds]) (fun x r => ∃ (t : TxX) (n : Int) (q : RecX) (ok : Bool), r = [t.ds, [.lf (.int .i64 n)], q.ds, [.lf (.bool ok)]] ∧ (ok = true → undP x.p = some ⟨x.p.lo, t, n, q⟩) ∧ (ok = false → undP x.p = none ∧ t = tx0))
theorem ev_sRead8 : ∀ x, evFnX tab [(68, cParts), (69, cTextNum), (70, cTextTx), (71, cTextRec)] cRead8 Tryz.f30 (body Tryz.f30) x := by
  rintro ⟨⟨k, v⟩, h1, h2, h3⟩
  replace h1 : 1 ≤ k.size := h1
  replace h2 : k.size ≤ 1048576 := h2
  replace h3 : v.size ≤ 1048576 := h3
  have hsz : (0 : Int) < (k.size : Int) := by omega
  conv => whnf
  refine ⟨⟨k, h2⟩, rfl, ?_⟩
  rintro _ _ ⟨rfl, rfl⟩
  conv => whnf
  intro _
  conv => whnf
  have no : undP ⟨k, v⟩ = none → ∃ (t : TxX) (n : Int) (q : RecX) (ok : Bool), [tx0.ds, [D.lf (.int .i64 0)], rec0.ds, [D.lf (.bool false)]] = [t.ds, [.lf (.int .i64 n)], q.ds, [.lf (.bool ok)]] ∧ (ok = true → undP ⟨k, v⟩ = some ⟨k, t, n, q⟩) ∧ (ok = false → undP ⟨k, v⟩ = none ∧ t = tx0) := fun e => ⟨tx0, 0, rec0, false, rfl, fun h => (by cases h), fun _ => ⟨e, rfl⟩⟩
  refine br2 (fun h5 => ?_) (fun h5 => ?_)
  · have h6 : (partsT k).length ≠ 4 := fun e => by
      replace h5 : (((partsT k).length : Int) != 4) = true := h5
      rw [e] at h5; simp at h5
    conv => whnf
    refine ⟨⟨rfl, no (undP_none fun u hu => ?_)⟩⟩
    obtain ⟨a, b, c, d, e⟩ := und_four hu
    exact h6 (by have e2 : partsT k = [a, b, c, d] := e; rw [e2]; rfl)
  have h6 : (partsT k).length = 4 := by
    replace h5 : (((partsT k).length : Int) != 4) = false := h5
    simp at h5; omega
  conv => whnf
  refine ⟨Int.le_refl _, hsz, ?_⟩
  conv => whnf
  refine br2 (fun h7 => ?_) (fun h7 => ?_)
  · have h8 : bt k 0 ≠ 112 := by
      replace h7 : (bt k 0 != 112) = true := h7
      simpa using h7
    conv => whnf
    exact ⟨⟨rfl, no (und_no fun A B e _ => h8 (head_bt e))⟩⟩
  have h8 : bt k 0 = 112 := by
    replace h7 : (bt k 0 != 112) = false := h7
    simpa using h7
  obtain ⟨a, b, c, d, hp⟩ : ∃ a b c d, partsT k = [a, b, c, d] := by
    match hl : partsT k, h6 with
    | [a, b, c, d], _ => exact ⟨a, b, c, d, rfl⟩
  obtain ⟨e', hB⟩ := parts_four hp
  obtain ⟨A, hA⟩ : ∃ A, bs a ++ 46 :: (bs b ++ 46 :: bs c) = 112 :: A := by
    cases ha : bs a with
    | nil =>
      rw [ha] at e'
      have := head_bt e'
      rw [h8] at this; exact absurd this (by decide)
    | cons x r =>
      rw [ha] at e'
      have := head_bt e'
      rw [h8] at this
      have : x = 112 := by
        apply UInt8.toNat_inj.1
        show x.toNat = 112
        omega
      rw [this]; exact ⟨_, rfl⟩
  rw [hA] at e'
  have hlen := congrArg List.length e'
  rw [bs_len, List.length_append] at hlen
  simp only [List.length_cons] at hlen
  rw [bs_len] at hlen
  have w1 : IntKind.i64.wrap ((k.size : Int) - (d.size : Int)) = (k.size : Int) - (d.size : Int) := w64 (by omega) (by omega)
  have w2 : IntKind.i64.wrap (IntKind.i64.wrap ((k.size : Int) - (d.size : Int)) - 1) = ((A.length + 1 : Nat) : Int) := by rw [w1, w64 (by omega) (by omega)]; omega
  obtain ⟨x1, x2⟩ := bs_ext e'
  have y1 : k.extract (1 : Int).toNat (IntKind.i64.wrap (IntKind.i64.wrap ((k.size : Int) - (d.size : Int)) - 1)).toNat = ofB A := by
    rw [w2, Int.toNat_natCast]; exact x1
  have z1 : (k.extract (1 : Int).toNat (IntKind.i64.wrap (IntKind.i64.wrap ((k.size : Int) - (d.size : Int)) - 1)).toNat).size ≤ 1048576 := by rw [y1, of_size]; omega
  have eb : bs (⟨k, v⟩ : RngX).lo = 112 :: (A ++ 46 :: bs d) := e'
  have c1 : (1 : Int) ≤ IntKind.i64.wrap (IntKind.i64.wrap ((k.size : Int) - (d.size : Int)) - 1) ∧ IntKind.i64.wrap (IntKind.i64.wrap ((k.size : Int) - (d.size : Int)) - 1) ≤ (k.size : Int) := by rw [w2]; omega
  generalize hl : partsT (⟨k, h2⟩ : SplX).s = l at *
  subst hp
  conv => whnf
  refine ⟨of_decide_eq_true rfl, of_decide_eq_true rfl, ?_⟩
  conv => whnf
  refine ⟨d, rfl, ?_⟩
  rintro _ _ ⟨rfl, n, o2, rfl, hn⟩
  replace hn : TextNumR d n o2 := hn
  conv => whnf
  repeat' ((first
    | refine ⟨of_decide_eq_true rfl, of_decide_eq_true rfl, ?_⟩
    | refine ⟨by decide, c1.1, c1.2, ?_⟩
    | refine rc_i (by (conv => whnf); first | rfl | exact ⟨of_decide_eq_true rfl, of_decide_eq_true rfl, rfl⟩ | exact ⟨by decide, c1.1, c1.2, rfl⟩) ?_); conv => whnf)
  refine ⟨⟨_, z1⟩, rfl, ?_⟩
  rintro _ _ ⟨rfl, x, o1, rfl, hx⟩
  replace hx : TextTxR (k.extract (1 : Int).toNat (IntKind.i64.wrap (IntKind.i64.wrap ((k.size : Int) - (d.size : Int)) - 1)).toNat) x o1 := hx
  rw [y1] at hx
  conv => whnf
  repeat ((first | refine rc_i rfl ?_ | refine rc_i (fun _ => rfl) ?_); conv => whnf)
  refine ⟨⟨v, by omega⟩, rfl, ?_⟩
  rintro _ _ ⟨rfl, r, o3, rfl, hr⟩
  obtain ⟨f1, f2⟩ := und_fin (p := ⟨k, v⟩) eb hB hx (by rw [of_bs]; exact hn) hr
  cases o2 with
  | false =>
    conv => whnf
    exact ⟨⟨rfl, no (f2 (.inr (.inl rfl)))⟩⟩
  | true =>
    cases o1 with
    | false =>
      conv => whnf
      exact ⟨⟨rfl, no (f2 (.inl rfl))⟩⟩
    | true =>
      cases o3 with
      | false =>
        conv => whnf
        exact ⟨⟨rfl, no (f2 (.inr (.inr (.inl rfl))))⟩⟩
      | true =>
        conv => whnf
        refine br2 (fun h9 => ?_) (fun h9 => ?_)
        · conv => whnf
          exact ⟨⟨rfl, no (f2 (.inr (.inr (.inr (by have h10 : n ≥ 16 := of_decide_eq_true h9; omega)))))⟩⟩
        · conv => whnf
          repeat ((first | refine rc_i rfl ?_ | refine rc_i (fun _ => rfl) ?_); conv => whnf)
          exact ⟨⟨rfl, x, n, r, true, rfl, fun _ => f1 rfl rfl rfl (by have h10 : ¬ n ≥ 16 := of_decide_eq_false h9; omega), fun e => (by cases e)⟩⟩
theorem sRead8_ok : FnOk Tryz.prog 30 cRead8 := fnOk_of fun x => fnX_at tab_ok (SOk.cons l07Parts_ok (SOk.cons sTextNum_ok (SOk.cons sTextTx_ok (SOk.cons sTextRec_ok SOk.nil)))) mixed (fn := Tryz.f30) (code := body Tryz.f30) ⟨Tryz.func30, rfl, by kernel_rfl, by kernel_rfl, by kernel_rfl, by kernel_rfl⟩ (ev_sRead8 x)
end Go.Vm
namespace Go.Vm
open Go.Proofs
set_option maxRecDepth 100000
set_option linter.unusedVariables false
set_option linter.unusedSimpArgs false

theorem half_eq {i j : Nat} (h : i + j ≤ 4000000) : IntKind.i64.wrap ((IntKind.u64.wrap (IntKind.i64.wrap ((i : Int) + (j : Int)))).fdiv (2 ^ (min (1 : Int).toNat IntKind.u64.bits))) = (((i + j) / 2 : Nat) : Int) := by
  have e1 : IntKind.i64.wrap ((i : Int) + (j : Int)) = ((i + j : Nat) : Int) := by rw [w64 (by omega) (by omega)]; omega
  have e2 : IntKind.u64.wrap ((i + j : Nat) : Int) = ((i + j : Nat) : Int) := by simp [IntKind.wrap, IntKind.bits, IntKind.signed]; omega
  have e3 : (2 : Int) ^ (min (1 : Int).toNat IntKind.u64.bits) = 2 := by decide
  rw [e1, e2, e3, Int.fdiv_eq_ediv_of_nonneg _ (by omega), w64 (by omega) (by omega)]
  omega
end Go.Vm
namespace Go.Vm
open Go.Proofs
set_option maxRecDepth 100000
set_option linter.unusedVariables false
set_option linter.unusedSimpArgs false

/-- Equality of transactions as Go compares them. -/
def txEq (a b : TxX) : Bool := a.c == b.c && (a.e == b.e && (a.n == b.n && true))
theorem txEq_iff {a b : TxX} : txEq a b = true ↔ a = b := by
  obtain ⟨a1, a2, a3⟩ := a
  obtain ⟨b1, b2, b3⟩ := b
  simp [txEq]
/-! What a search asks of a lock -/
end Go.Vm
namespace Go.Vm
open Go.Proofs
set_option maxRecDepth 100000
set_option linter.unusedVariables false
set_option linter.unusedSimpArgs false

def VX : Type := { u : UnX // txOkB u.tx = true ∧ 0 ≤ u.num ∧ u.num < 16 }
def VX.ds (v : VX) : List D := v.1.ds
def ltU (a b : VX) : Bool := strLt (txT a.1.tx) (txT b.1.tx) || (txEq a.1.tx b.1.tx && decide (a.1.num < b.1.num))
theorem ltU_iff {a b : VX} : ltU a b = true ↔ strLt (txT a.1.tx) (txT b.1.tx) = true ∨ a.1.tx = b.1.tx ∧ a.1.num < b.1.num := by
  simp [ltU, txEq_iff]
theorem ltU_swo : Swo ltU := by
  refine ⟨fun x => ?_, fun x y z h h' => ?_, fun x y z h => ?_⟩
  · cases e : ltU x x with
    | false => rfl
    | true =>
      rcases ltU_iff.1 e with h | ⟨_, h⟩
      · rw [strLt_irrefl] at h; cases h
      · omega
  · rw [ltU_iff] at *
    rcases h with h | ⟨h1, h2⟩ <;> rcases h' with h' | ⟨h1', h2'⟩
    · exact .inl (strLt_trans h h')
    · exact .inl (by rw [← h1']; exact h)
    · exact .inl (by rw [h1]; exact h')
    · exact .inr ⟨h1.trans h1', by omega⟩
  · rw [ltU_iff] at h
    simp only [ltU_iff]
    rcases h with h | ⟨h1, h2⟩
    · cases e : strLt (txT x.1.tx) (txT y.1.tx) with
      | true => exact .inl (.inl rfl)
      | false => exact .inr (.inl (le_lt e h))
    · cases e : strLt (txT x.1.tx) (txT y.1.tx) with
      | true => exact .inl (.inl rfl)
      | false =>
        cases e' : strLt (txT y.1.tx) (txT x.1.tx) with
        | true => exact .inr (.inl (by rw [← h1]; exact e'))
        | false =>
          have hxy := txT_inj x.2.1 y.2.1 (strLt_tri e e')
          rcases (show x.1.num < y.1.num ∨ y.1.num < z.1.num by omega) with h3 | h3
          · exact .inl (.inr ⟨hxy, h3⟩)
          · exact .inr (.inr ⟨hxy.symm.trans h1, h3⟩)
theorem cmpB_lt : ∀ a b : List UInt8, Lib.compareBytes a b < 0 ↔ Op.bytesLess a b = true
  | [], [] => by simp [Lib.compareBytes, Op.bytesLess]
  | [], _ :: _ => by simp [Lib.compareBytes, Op.bytesLess]
  | _ :: _, [] => by simp [Lib.compareBytes, Op.bytesLess]
  | a :: x, b :: y => by
    have ih := cmpB_lt x y
    simp only [Lib.compareBytes, Op.bytesLess, Bool.or_eq_true, Bool.and_eq_true, decide_eq_true_eq, beq_iff_eq]
    by_cases h : a < b
    · simp [h]
    · by_cases h2 : b < a
      · rw [if_neg h, if_pos h2]
        have : a ≠ b := fun e => by subst e; exact h h2
        simp [h, this]
      · have : a = b := by
          apply UInt8.toNat_inj.1
          rw [u8_lt2] at h h2
          omega
        subst this
        simp [h, ih]
def cmpI (a b : ByteArray) : Int := Lib.compareBytes a.data.toList b.data.toList
theorem cmpI_lt (a b : ByteArray) : cmpI a b < 0 ↔ strLt a b = true := by
  unfold cmpI strLt
  rw [ByteArray.toList_eq, ByteArray.toList_eq]
  exact cmpB_lt _ _
def cCmpS : Con := pureC (ByteArray × ByteArray) [(.rd, false), (.rd, false)] [false] (fun x => [[.lf (.string x.1)], [.lf (.string x.2)]]) (fun x => [[.lf (.int .i64 (cmpI x.1 x.2))]])
theorem cmps_run (x : ByteArray × ByteArray) (w : World) : (callFunc 174 #[.string x.1, .string x.2]).run Tryz.prog w = .ok (.value (.int .i64 (cmpI x.1 x.2))) w := by
  rw [run_callFunc_extern (fn := Tryz.f174) (by kernel_rfl) (by kernel_rfl) (by kernel_rfl) (by kernel_rfl) (e := Extern.BytealgCompare.compare) (by kernel_rfl), Lib.run_compareString]
  rfl
theorem cmpS_ok : FnOk Tryz.prog 174 cCmpS := extern2 (X := ByteArray × ByteArray) (a := fun x => .string x.1) (b := fun x => .string x.2) (r := fun x => .int .i64 (cmpI x.1 x.2)) (fun _ => rfl) cmps_run
theorem ev_cmpStr0 : ∀ x, evFnX tab [(174, cCmpS)] cCmpS Tryz.f128 (body Tryz.f128) x := by
  rintro ⟨a, b⟩
  conv => whnf
  refine ⟨(a, b), rfl, ?_⟩
  rintro _ _ ⟨rfl, rfl⟩
  conv => whnf
  exact ⟨⟨rfl, rfl⟩⟩
theorem cmpStr0_ok : FnOk Tryz.prog 128 cCmpS := fnOk_of fun x => fnX_at tab_ok (SOk.cons cmpS_ok SOk.nil) mixed (fn := Tryz.f128) (code := body Tryz.f128) ⟨Tryz.func128, rfl, by kernel_rfl, by kernel_rfl, by kernel_rfl, by kernel_rfl⟩ (ev_cmpStr0 x)
theorem ev_cmpStr : ∀ x, evFnX tab [(128, cCmpS)] cCmpS Tryz.f76 (body Tryz.f76) x := by
  rintro ⟨a, b⟩
  conv => whnf
  refine ⟨(a, b), rfl, ?_⟩
  rintro _ _ ⟨rfl, rfl⟩
  conv => whnf
  exact ⟨⟨rfl, rfl⟩⟩
theorem cmpStr_ok : FnOk Tryz.prog 76 cCmpS := fnOk_of fun x => fnX_at tab_ok (SOk.cons cmpStr0_ok SOk.nil) mixed (fn := Tryz.f76) (code := body Tryz.f76) ⟨Tryz.func76, rfl, by kernel_rfl, by kernel_rfl, by kernel_rfl, by kernel_rfl⟩ (ev_cmpStr x)
def cCmpU : Con := relC (VX × VX) [(.rd, true), (.rd, true)] [false] (fun x => [x.1.ds, x.2.ds]) (fun x r => ∃ n : Int, r = [[.lf (.int .i64 n)]] ∧ (n < 0 ↔ ltU x.1 x.2 = true))
theorem ev_cmpU : ∀ x, evFnX tab [(55, cTxText), (76, cCmpS)] cCmpU Tryz.f75 (body Tryz.f75) x := by
  rintro ⟨⟨⟨k, t, n, r⟩, h1, h2, h3⟩, ⟨⟨k', t', n', r'⟩, h1', h2', h3'⟩⟩
  replace h2 : 0 ≤ n := h2
  replace h3 : n < 16 := h3
  replace h2' : 0 ≤ n' := h2'
  replace h3' : n' < 16 := h3'
  have eq : ltU ⟨⟨k, t, n, r⟩, h1, h2, h3⟩ ⟨⟨k', t', n', r'⟩, h1', h2', h3'⟩ = (strLt (txT t) (txT t') || (txEq t t' && decide (n < n'))) := rfl
  conv => whnf
  refine br2 (fun h => ?_) (fun h => ?_)
  · replace h : txEq t t' = true := h
    conv => whnf
    refine ⟨⟨rfl, _, rfl, ?_⟩⟩
    show IntKind.i64.wrap (n - n') < 0 ↔ _
    rw [w64 (by omega) (by omega)]
    rw [eq, h, txEq_iff.1 h, strLt_irrefl]
    simp; omega
  · replace h : txEq t t' = false := h
    have fin : ∃ m : Int, [[D.lf (.int .i64 (cmpI (txT t) (txT t')))]] = [[D.lf (.int .i64 m)]] ∧ (m < 0 ↔ ltU ⟨⟨k, t, n, r⟩, h1, h2, h3⟩ ⟨⟨k', t', n', r'⟩, h1', h2', h3'⟩ = true) := ⟨_, rfl, by rw [eq, h, cmpI_lt]; simp⟩
    repeat' ((conv => whnf); first
      | refine rc_i rfl ?_
      | (refine ⟨t, rfl, ?_⟩; rintro _ _ ⟨rfl, rfl⟩)
      | (refine ⟨t', rfl, ?_⟩; rintro _ _ ⟨rfl, rfl⟩)
      | (refine ⟨(txT t, txT t'), rfl, ?_⟩; rintro _ _ ⟨rfl, rfl⟩)
      | exact ⟨⟨rfl, fin⟩⟩)
theorem cmpU_ok : FnOk Tryz.prog 75 cCmpU := fnOk_of fun x => fnX_at tab_ok (SOk.cons iTxText_ok (SOk.cons cmpStr_ok SOk.nil)) mixed (fn := Tryz.f75) (code := body Tryz.f75) ⟨Tryz.func75, rfl, by kernel_rfl, by kernel_rfl, by kernel_rfl, by kernel_rfl⟩ (ev_cmpU x)
def cmpD : D := .fn 75 []
structure SwX where
  l : List VX
  a : Nat
  b : Nat
  n : Nat
  hd : a + n ≤ b ∨ b + n ≤ a
  ha : a + n ≤ l.length
  hb : b + n ≤ l.length
  hl : l.length ≤ 200
def cSwR : Con := { X := SwX, params := [(.mut, false), (.rd, false), (.rd, false), (.rd, false), (.rd, false)], res := [], resOwn := true, ins := fun x => [[.row 10 VX.ds x.l], [.lf (.int .i64 x.a)], [.lf (.int .i64 x.b)], [.lf (.int .i64 x.n)], [cmpD]], post := fun x outs r => r = [] ∧ ∃ l', outs = [[.row 10 VX.ds l']] ∧ SwTo x.l l' x.a x.b x.n }
theorem ev_swR : ∀ x, evFnX tab [] cSwR Tryz.f205 (body Tryz.f205) x := by
  rintro ⟨l, a, b, n, hd, ha, hb, hl⟩
  replace hd : a + n ≤ b ∨ b + n ≤ a := hd
  replace ha : a + n ≤ l.length := ha
  replace hb : b + n ≤ l.length := hb
  replace hl : l.length ≤ 200 := hl
  conv => whnf
  let S0 : Nat → Sl := fun i => [(10, .lf (.int .i64 i)), (3, .lf (.int .i64 n)), (2, .lf (.int .i64 b)), (1, .lf (.int .i64 a)), (1000000, .sl 0 none), (0, .sl 0 none)]
  let H0 : List VX → Hp := fun q => [(0, some (.row .own 10 VX.ds q))]
  refine ⟨fun m s h => ∃ (i : Nat) (q : List VX), i ≤ n ∧ SwTo l q a b i ∧ m = n - i ∧ s = S0 i ∧ h = H0 q, n, [(0, 0)], S0 0, H0 l, ⟨rfl, ⟨rfl, rfl, rfl, rfl, rfl, rfl, trivial⟩, rfl, trivial⟩, ⟨0, l, by omega, swTo_zero l a b, by omega, rfl, rfl⟩, ?_⟩
  rintro m _ _ ⟨i, q, g1, g2, rfl, rfl, rfl⟩
  have hq := g2.1
  conv => whnf
  refine br2 (fun h5 => ?_) (fun h5 => ?_)
  · have hi : i < n := by have := of_decide_eq_true h5; omega
    have ea : IntKind.i64.wrap ((a : Int) + (i : Int)) = ((a + i : Nat) : Int) := by rw [w64 (by omega) (by omega)]; omega
    have eb : IntKind.i64.wrap ((b : Int) + (i : Int)) = ((b + i : Nat) : Int) := by rw [w64 (by omega) (by omega)]; omega
    obtain ⟨x, hx⟩ := getL (l := q) (j := a + i) (by omega)
    obtain ⟨y, hy⟩ := getL (l := q) (j := b + i) (by omega)
    have hy2 : (q.set (a + i) y)[b + i]? = some y := by rw [List.getElem?_set_ne (by omega)]; exact hy
    have st := g2.step hi hd ha hb hx hy
    have hinc := incI hi (show n ≤ 9223372036854775807 by omega)
    have na : (IntKind.i64.wrap ((a : Int) + (i : Int))).toNat = a + i := by rw [ea]; rfl
    have nb : (IntKind.i64.wrap ((b : Int) + (i : Int))).toNat = b + i := by rw [eb]; rfl
    have hxs : (q.set (IntKind.i64.wrap ((a : Int) + (i : Int))).toNat y)[a + i]? = some y := by rw [na, List.getElem?_set_self (by omega)]
    have hys : (q.set (IntKind.i64.wrap ((a : Int) + (i : Int))).toNat y)[b + i]? = some y := by rw [na]; exact hy2
    rw [← na, ← nb] at st
    conv => whnf
    refine ⟨(ixE eb hy).1, (ixE eb hy).2, ?_⟩
    conv => whnf
    refine ex2 _ (nthE eb hy) ?_
    conv => whnf
    repeat (refine rc_i (by (conv => whnf); first | rfl | exact ⟨(ixE eb hy).1, (ixE eb hy).2, rfl⟩ | exact ex2 _ (nthE eb hy) rfl) ?_; conv => whnf)
    refine ⟨(ixE ea hx).1, (ixE ea hx).2, ?_⟩
    conv => whnf
    refine ex2 _ (nthE ea hx) ?_
    conv => whnf
    repeat (refine rc_i (by (conv => whnf); first | rfl | exact ⟨(ixE eb hy).1, (ixE eb hy).2, rfl⟩ | exact ex2 _ (nthE eb hy) rfl | exact ⟨(ixE ea hx).1, (ixE ea hx).2, rfl⟩ | exact ex2 _ (nthE ea hx) rfl) ?_; conv => whnf)
    refine ⟨(ixE ea hx).1, (ixE ea hx).2, ?_⟩
    conv => whnf
    repeat (refine rc_i (by (conv => whnf); first | rfl | exact ⟨(ixE eb hy).1, (ixE eb hy).2, rfl⟩ | exact ex2 _ (nthE eb hy) rfl | exact ⟨(ixE ea hx).1, (ixE ea hx).2, rfl⟩ | exact ex2 _ (nthE ea hx) rfl) ?_; conv => whnf)
    refine ex2 _ (nthE ea hx) ?_
    conv => whnf
    refine ⟨y, rfl, ?_⟩
    conv => whnf
    repeat (refine rc_i (by (conv => whnf); first | rfl | exact ⟨(ixE eb hys).1, (ixE eb hys).2, rfl⟩ | exact ex2 _ (nthE eb hys) rfl | exact ⟨(ixE ea hxs).1, (ixE ea hxs).2, rfl⟩ | exact ex2 _ (nthE ea hxs) rfl) ?_; conv => whnf)
    refine ⟨(ixE eb hys).1, (ixE eb hys).2, ?_⟩
    conv => whnf
    repeat (refine rc_i (by (conv => whnf); first | rfl | exact ⟨(ixE eb hys).1, (ixE eb hys).2, rfl⟩ | exact ex2 _ (nthE eb hys) rfl | exact ⟨(ixE ea hxs).1, (ixE ea hxs).2, rfl⟩ | exact ex2 _ (nthE ea hxs) rfl) ?_; conv => whnf)
    refine ex2 _ (nthE eb hys) ?_
    conv => whnf
    refine ⟨x, rfl, ?_⟩
    conv => whnf
    exact ⟨n - (i + 1), [(0, 0)], S0 (i + 1), H0 _, by omega, ⟨rfl, ⟨hinc, rfl, rfl, rfl, rfl, rfl, trivial⟩, rfl, trivial⟩, i + 1, _, hi, st, rfl, rfl, rfl⟩
  · have hi : i = n := by have := of_decide_eq_false h5; omega
    subst hi
    conv => whnf
    exact ⟨⟨rfl, q, rfl, g2⟩⟩
theorem swR_ok : FnOk Tryz.prog 205 cSwR := fnOk_of fun x => fnX_at tab_ok (SOk.nil) mixed (fn := Tryz.f205) (code := body Tryz.f205) ⟨Tryz.func205, rfl, by kernel_rfl, by kernel_rfl, by kernel_rfl, by kernel_rfl⟩ (ev_swR x)
structure RotX where
  l : List VX
  m : Nat
  i : Nat
  j : Nat
  hi : 0 < i ∧ i ≤ m
  hj : 0 < j
  hm : m + j ≤ l.length
  hl : l.length ≤ 200
def cRot : Con := { X := RotX, params := [(.mut, false), (.rd, false), (.rd, false), (.rd, false), (.rd, false)], res := [], resOwn := true, ins := fun x => [[.row 10 VX.ds x.l], [.lf (.int .i64 (x.m - x.i : Nat))], [.lf (.int .i64 x.m)], [.lf (.int .i64 (x.m + x.j : Nat))], [cmpD]], post := fun x outs r => r = [] ∧ ∃ q, outs = [[.row 10 VX.ds q]] ∧ q.length = x.l.length ∧ ∀ k, q[k]? = x.l[rho (x.m - x.i) x.m (x.m + x.j) k]? }
/-- So far turned about: what is left are two ranges next to the middle. -/
def RotI (l q : List VX) (m i j I J : Nat) : Prop := q.length = l.length ∧ ∀ k, q[rho (m - i) m (m + j) k]? = l[rho (m - I) m (m + J) k]?
theorem ev_rotU : ∀ x, evFnX tab [(205, cSwR)] cRot Tryz.f194 (body Tryz.f194) x := by
  rintro ⟨l, m, I, J, ⟨hI, hIm⟩, hJ, hm, hl⟩
  replace hm : m + J ≤ l.length := hm
  replace hl : l.length ≤ 200 := hl
  replace hIm : I ≤ m := hIm
  have w1 : V.lf (.int .i64 (IntKind.i64.wrap ((m : Int) - ((m - I : Nat) : Int)))) = V.lf (.int .i64 (I : Int)) := by rw [w64 (by omega) (by omega)]; congr 2; omega
  have w2 : V.lf (.int .i64 (IntKind.i64.wrap (((m + J : Nat) : Int) - (m : Int)))) = V.lf (.int .i64 (J : Int)) := by rw [w64 (by omega) (by omega)]; congr 2; omega
  conv => whnf
  let S0 : Nat → Nat → Sl := fun i j => [(11, .lf (.int .i64 j)), (10, .lf (.int .i64 i)), (4, .fn 75 []), (2, .lf (.int .i64 m)), (1000000, .sl 0 none), (0, .sl 0 none)]
  let H0 : List VX → Hp := fun q => [(0, some (.row .own 10 VX.ds q))]
  refine ⟨fun z s h => ∃ (i j : Nat) (q : List VX), (0 < i ∧ i ≤ I) ∧ (0 < j ∧ j ≤ J) ∧ RotI l q m i j I J ∧ z = i + j ∧ s = S0 i j ∧ h = H0 q, I + J, [(0, 0)], S0 I J, H0 l, ⟨rfl, ⟨w2, w1, rfl, rfl, rfl, rfl, trivial⟩, rfl, trivial⟩, ⟨I, J, l, ⟨hI, Nat.le_refl _⟩, ⟨hJ, Nat.le_refl _⟩, ⟨rfl, fun _ => rfl⟩, rfl, rfl, rfl⟩, ?_⟩
  rintro z _ _ ⟨i, j, q, ⟨g1, g2⟩, ⟨g3, g4⟩, ⟨g5, g6⟩, rfl, rfl, rfl⟩
  conv => whnf
  refine br2 (fun h5 => ?_) (fun h5 => ?_)
  · replace h5 : ((i : Int) != (j : Int)) = true := h5
    have hij : i ≠ j := by simp at h5; omega
    conv => whnf
    refine br2 (fun h6 => ?_) (fun h6 => ?_)
    · have h7 : j < i := by have := of_decide_eq_true h6; omega
      have e1 : [D.lf (.int .i64 ((m - i : Nat) : Int))] = [D.lf (.int .i64 (IntKind.i64.wrap ((m : Int) - (i : Int))))] := by rw [w64 (by omega) (by omega)]; congr 4; omega
      conv => whnf
      refine ⟨⟨q, m - i, m, j, .inl (by omega), by omega, by omega, by omega⟩, by rw [← e1]; rfl, ?_⟩
      rintro _ _ ⟨rfl, q', rfl, hq1, hq2⟩
      replace hq2 : ∀ k, q'[k]? = q[sig (m - i) m j k]? := hq2
      conv => whnf
      refine ⟨(i - j) + j, [(0, 0)], S0 (i - j) j, H0 q', by omega, ⟨rfl, ⟨rfl, ?_, rfl, rfl, rfl, rfl, trivial⟩, rfl, trivial⟩, i - j, j, q', by omega, by omega, ⟨hq1.trans g5, fun k => ?_⟩, rfl, rfl, rfl⟩
      · show V.lf (.int .i64 (IntKind.i64.wrap ((i : Int) - (j : Int)))) = _
        rw [w64 (by omega) (by omega)]; congr 2; omega
      · rw [hq2, rho_gt h7 (by omega)]; exact g6 k
    · have h7 : i < j := by have := of_decide_eq_false h6; omega
      have e1 : [D.lf (.int .i64 ((m - i : Nat) : Int))] = [D.lf (.int .i64 (IntKind.i64.wrap ((m : Int) - (i : Int))))] := by rw [w64 (by omega) (by omega)]; congr 4; omega
      have e2 : [D.lf (.int .i64 ((m + j - i : Nat) : Int))] = [D.lf (.int .i64 (IntKind.i64.wrap (IntKind.i64.wrap ((m : Int) + (j : Int)) - (i : Int))))] := by rw [w64 (n := (m : Int) + (j : Int)) (by omega) (by omega), w64 (by omega) (by omega)]; congr 4; omega
      conv => whnf
      refine ⟨⟨q, m - i, m + j - i, i, .inl (by omega), by omega, by omega, by omega⟩, by rw [← e1, ← e2]; rfl, ?_⟩
      rintro _ _ ⟨rfl, q', rfl, hq1, hq2⟩
      replace hq2 : ∀ k, q'[k]? = q[sig (m - i) (m + j - i) i k]? := hq2
      conv => whnf
      refine ⟨i + (j - i), [(0, 0)], S0 i (j - i), H0 q', by omega, ⟨rfl, ⟨?_, rfl, rfl, rfl, rfl, rfl, trivial⟩, rfl, trivial⟩, i, j - i, q', by omega, by omega, ⟨hq1.trans g5, fun k => ?_⟩, rfl, rfl, rfl⟩
      · show V.lf (.int .i64 (IntKind.i64.wrap ((j : Int) - (i : Int)))) = _
        rw [w64 (by omega) (by omega)]; congr 2; omega
      · rw [hq2, rho_lt h7 (by omega)]; exact g6 k
  · replace h5 : ((i : Int) != (j : Int)) = false := h5
    obtain rfl : i = j := by simp at h5; omega
    have e1 : [D.lf (.int .i64 ((m - i : Nat) : Int))] = [D.lf (.int .i64 (IntKind.i64.wrap ((m : Int) - (i : Int))))] := by rw [w64 (by omega) (by omega)]; congr 4; omega
    conv => whnf
    refine ⟨⟨q, m - i, m, i, .inl (by omega), by omega, by omega, by omega⟩, by rw [← e1]; rfl, ?_⟩
    rintro _ _ ⟨rfl, q', rfl, hq1, hq2⟩
    replace hq2 : ∀ k, q'[k]? = q[sig (m - i) m i k]? := hq2
    conv => whnf
    refine ⟨⟨rfl, q', rfl, hq1.trans g5, fun k => ?_⟩⟩
    rw [hq2, ← rho_eq (by omega)]; exact g6 k
theorem rotU_ok : FnOk Tryz.prog 194 cRot := fnOk_of fun x => fnX_at tab_ok (SOk.cons swR_ok SOk.nil) mixed (fn := Tryz.f194) (code := body Tryz.f194) ⟨Tryz.func194, rfl, by kernel_rfl, by kernel_rfl, by kernel_rfl, by kernel_rfl⟩ (ev_rotU x)
end Go.Vm
namespace Go.Vm
open Go.Proofs
set_option maxRecDepth 100000
set_option linter.unusedVariables false
set_option linter.unusedSimpArgs false

structure InsSX where
  l : List VX
  a : Nat
  b : Nat
  h : a ≤ b ∧ b ≤ l.length
  hl : l.length ≤ 200
def cInsS : Con := { X := InsSX, params := [(.mut, false), (.rd, false), (.rd, false), (.rd, false)], res := [], resOwn := true, ins := fun x => [[.row 10 VX.ds x.l], [.lf (.int .i64 x.a)], [.lf (.int .i64 x.b)], [cmpD]], post := fun x outs r => r = [] ∧ ∃ Z, outs = [[.row 10 VX.ds (x.l.take x.a ++ (Z ++ x.l.drop x.b))]] ∧ Sd ltU Z ∧ Z.Perm ((x.l.drop x.a).take (x.b - x.a)) }
theorem insAt_zero_end {α : Type} (Z : List α) (e : α) : insAt Z Z.length e = Z ++ [e] := by unfold insAt; simp
theorem ev_insS : ∀ x, evFnX tab [(75, cCmpU)] cInsS Tryz.f172 (body Tryz.f172) x := by
  rintro ⟨l, a, b, ⟨hab, hb⟩, hl⟩
  replace hb : b ≤ l.length := hb
  replace hl : l.length ≤ 200 := hl
  have w1 : V.lf (.int .i64 (IntKind.i64.wrap ((a : Int) + 1))) = V.lf (.int .i64 ((a + 1 : Nat) : Int)) := by rw [w64 (by omega) (by omega)]; congr 2
  conv => whnf
  let S0 : Nat → Sl := fun i => [(8, .lf (.int .i64 i)), (3, .fn 75 []), (2, .lf (.int .i64 b)), (1, .lf (.int .i64 a)), (1000000, .sl 0 none), (0, .sl 0 none)]
  let H0 : List VX → Hp := fun q => [(0, some (.row .own 10 VX.ds q))]
  let Q : Nat → List VX → List VX := fun k Z => l.take a ++ (Z ++ l.drop (a + k))
  have init : l = Q 1 ((l.drop a).take 1) := by
    show l = l.take a ++ ((l.drop a).take 1 ++ l.drop (a + 1))
    rw [← List.drop_drop, List.take_append_drop, List.take_append_drop]
  refine ⟨fun z s h => ∃ (k : Nat) (Z : List VX), 1 ≤ k ∧ (a + k ≤ b ∨ k = 1) ∧ Sd ltU Z ∧ Z.Perm ((l.drop a).take k) ∧ z = b + 1 - (a + k) ∧ s = S0 (a + k) ∧ h = H0 (Q k Z), b + 1 - (a + 1), [(0, 0)], S0 (a + 1), H0 l, ⟨rfl, ⟨w1, rfl, rfl, rfl, rfl, rfl, trivial⟩, rfl, trivial⟩, ⟨1, (l.drop a).take 1, Nat.le_refl _, .inr rfl, ?_, List.Perm.refl _, rfl, rfl, by rw [← init]⟩, ?_⟩
  · cases l.drop a with
    | nil => exact List.Pairwise.nil
    | cons x r => exact List.pairwise_singleton _ _
  rintro z _ _ ⟨k, Z, g1, g2, g3, g4, rfl, rfl, rfl⟩
  have hZ := g4.length_eq
  rw [List.length_take, List.length_drop] at hZ
  conv => whnf
  refine br2 (fun h5 => ?_) (fun h5 => ?_)
  · have hk : a + k < b := by have := of_decide_eq_true h5; omega
    have hZk : Z.length = k := by omega
    obtain ⟨e, he⟩ := getL (l := l) (j := a + k) (by omega)
    have hd : l.drop (a + k) = e :: l.drop (a + k + 1) := by
      have h1 := List.drop_eq_getElem_cons (List.getElem?_eq_some_iff.1 he).1
      rw [(List.getElem?_eq_some_iff.1 he).2] at h1; exact h1
    have hta : (l.take a).length = a := by rw [List.length_take]; omega
    have hQ : Q k Z = l.take a ++ (insAt Z k e ++ l.drop (a + k + 1)) := by
      show l.take a ++ (Z ++ l.drop (a + k)) = _
      rw [hd, ← hZk, insAt_zero_end]; simp
    have hQl : ∀ j, j ≤ k → (l.take a ++ (insAt Z j e ++ l.drop (a + k + 1))).length = l.length := fun j hj => by
      rw [List.length_append, List.length_append, insAt_len, List.length_drop, hta]; omega
    rw [hQ]
    conv => whnf
    let S1 : Nat → Sl := fun j => [(9, .lf (.int .i64 j)), (8, .lf (.int .i64 ((a + k : Nat) : Int))), (3, .fn 75 []), (2, .lf (.int .i64 b)), (1, .lf (.int .i64 a)), (1000000, .sl 0 none), (0, .sl 0 none)]
    refine ⟨fun z s h => ∃ j : Nat, j ≤ k ∧ (∀ y ∈ Z.drop j, ltU e y = true) ∧ z = j ∧ s = S1 (a + j) ∧ h = H0 (l.take a ++ (insAt Z j e ++ l.drop (a + k + 1))), k, [(0, 0)], S1 (a + k), H0 (l.take a ++ (insAt Z k e ++ l.drop (a + k + 1))), ⟨rfl, ⟨rfl, rfl, rfl, rfl, rfl, rfl, rfl, trivial⟩, rfl, trivial⟩, ⟨k, Nat.le_refl _, by rw [← hZk, List.drop_length]; simp, rfl, rfl, rfl⟩, ?_⟩
    rintro j _ _ ⟨_, g5, g6, rfl, rfl, rfl⟩
    have w2 : V.lf (.int .i64 (IntKind.i64.wrap (((a + k : Nat) : Int) + 1))) = V.lf (.int .i64 ((a + (k + 1) : Nat) : Int)) := by rw [w64 (by omega) (by omega)]; congr 2
    -- the element has come to its place
    have stop : (j = 0 ∨ ∃ y, Z[j - 1]? = some y ∧ ltU e y = false) → Sd ltU (insAt Z j e) ∧ (insAt Z j e).Perm ((l.drop a).take (k + 1)) := fun h => by
      obtain ⟨s1, s2⟩ := ins_done ltU_swo g3 (by omega) g6 h
      refine ⟨s1, s2.trans ?_⟩
      rw [List.take_add_one, List.getElem?_drop, he]
      exact g4.append_right [e]
    have done_ : (j = 0 ∨ ∃ y, Z[j - 1]? = some y ∧ ltU e y = false) → ∀ {s' : Sl} {h' : Hp}, Le [(0, 0)] (S0 (a + (k + 1))) (H0 (l.take a ++ (insAt Z j e ++ l.drop (a + k + 1)))) s' h' → ∃ m' ρ s'' h'', m' < b + 1 - (a + k) ∧ Le ρ s'' h'' s' h' ∧ ∃ (k : Nat) (Z : List VX), 1 ≤ k ∧ (a + k ≤ b ∨ k = 1) ∧ Sd ltU Z ∧ Z.Perm ((l.drop a).take k) ∧ m' = b + 1 - (a + k) ∧ s'' = S0 (a + k) ∧ h'' = H0 (Q k Z) := fun h s' h' hle => by
      obtain ⟨s1, s2⟩ := stop h
      exact ⟨b + 1 - (a + (k + 1)), [(0, 0)], S0 (a + (k + 1)), H0 (Q (k + 1) (insAt Z j e)), by omega, hle, k + 1, _, by omega, .inl (by omega), s1, s2, rfl, rfl, rfl⟩
    conv => whnf
    refine br2 (fun h6 => ?_) (fun h6 => ?_)
    · have hj : 0 < j := by have := of_decide_eq_true h6; omega
      obtain ⟨i, rfl⟩ : ∃ i, j = i + 1 := ⟨j - 1, by omega⟩
      obtain ⟨y, hy⟩ := getL (l := Z) (j := i) (by omega)
      have he1 : (l.take a ++ (insAt Z (i + 1) e ++ l.drop (a + k + 1)))[a + (i + 1)]? = some e := by
        have := ins_at (A := l.take a) (R := l.drop (a + k + 1)) (Z := Z) (k := i + 1) (e := e) (by omega)
        rwa [hta] at this
      have hy1 : (l.take a ++ (insAt Z (i + 1) e ++ l.drop (a + k + 1)))[a + i]? = some y := by
        have := ins_below (A := l.take a) (R := l.drop (a + k + 1)) (Z := Z) (k := i) (e := e) (by omega)
        rw [hta] at this
        rw [this]; exact hy
      have hsw := ins_swap (A := l.take a) (R := l.drop (a + k + 1)) (e := e) hy
      rw [hta] at hsw
      generalize hq : l.take a ++ (insAt Z (i + 1) e ++ l.drop (a + k + 1)) = q at *
      have hql : q.length = l.length := by rw [← hq]; exact hQl (i + 1) g5
      have ej : ((a + (i + 1) : Nat) : Int) = ((a + (i + 1) : Nat) : Int) := rfl
      have ep : IntKind.i64.wrap (((a + (i + 1) : Nat) : Int) - 1) = ((a + i : Nat) : Int) := by rw [w64 (by omega) (by omega)]; omega
      conv => whnf
      refine ⟨(ixE ej he1).1, (ixE ej he1).2, ?_⟩
      conv => whnf
      refine ex2 _ (nthE ej he1) ?_
      conv => whnf
      repeat (refine rc_i (by (conv => whnf); first | rfl | exact fun _ => rfl | exact ⟨(ixE ej he1).1, (ixE ej he1).2, rfl⟩ | exact ex2 _ (nthE ej he1) rfl | exact ⟨(ixE ep hy1).1, (ixE ep hy1).2, rfl⟩ | exact ex2 _ (nthE ep hy1) rfl) ?_; conv => whnf)
      refine ⟨(ixE ep hy1).1, (ixE ep hy1).2, ?_⟩
      conv => whnf
      refine ex2 _ (nthE ep hy1) ?_
      conv => whnf
      repeat (refine rc_i (by (conv => whnf); first | rfl | exact fun _ => rfl | exact ⟨(ixE ej he1).1, (ixE ej he1).2, rfl⟩ | exact ex2 _ (nthE ej he1) rfl | exact ⟨(ixE ep hy1).1, (ixE ep hy1).2, rfl⟩ | exact ex2 _ (nthE ep hy1) rfl) ?_; conv => whnf)
      refine ⟨(e, y), rfl, ?_⟩
      rintro _ _ ⟨rfl, n, rfl, hn⟩
      replace hn : n < 0 ↔ ltU e y = true := hn
      conv => whnf
      repeat (refine rc_i (by (conv => whnf); first | rfl | exact fun _ => rfl | exact ⟨(ixE ej he1).1, (ixE ej he1).2, rfl⟩ | exact ex2 _ (nthE ej he1) rfl | exact ⟨(ixE ep hy1).1, (ixE ep hy1).2, rfl⟩ | exact ex2 _ (nthE ep hy1) rfl) ?_; conv => whnf)
      refine br2 (fun h7 => ?_) (fun h7 => ?_)
      · have h7' : ltU e y = true := hn.1 (of_decide_eq_true h7)
        have np : (IntKind.i64.wrap (((a + (i + 1) : Nat) : Int) - 1)).toNat = a + i := by rw [ep]; rfl
        have nj : (((a + (i + 1) : Nat) : Int)).toNat = a + (i + 1) := rfl
        have hxs : (q.set (((a + (i + 1) : Nat) : Int)).toNat y)[a + (i + 1)]? = some y := by rw [nj, List.getElem?_set_self (by omega)]
        have hys : (q.set (((a + (i + 1) : Nat) : Int)).toNat y)[a + i]? = some y := by rw [nj, List.getElem?_set_ne (by omega)]; exact hy1
        rw [← np, ← nj] at hsw
        conv => whnf
        refine ⟨(ixE ep hy1).1, (ixE ep hy1).2, ?_⟩
        conv => whnf
        refine ex2 _ (nthE ep hy1) ?_
        conv => whnf
        repeat (refine rc_i (by (conv => whnf); first | rfl | exact ⟨(ixE ep hy1).1, (ixE ep hy1).2, rfl⟩ | exact ex2 _ (nthE ep hy1) rfl) ?_; conv => whnf)
        refine ⟨(ixE ej he1).1, (ixE ej he1).2, ?_⟩
        conv => whnf
        refine ex2 _ (nthE ej he1) ?_
        conv => whnf
        repeat (refine rc_i (by (conv => whnf); first | rfl | exact ⟨(ixE ep hy1).1, (ixE ep hy1).2, rfl⟩ | exact ex2 _ (nthE ep hy1) rfl | exact ⟨(ixE ej he1).1, (ixE ej he1).2, rfl⟩ | exact ex2 _ (nthE ej he1) rfl) ?_; conv => whnf)
        refine ⟨(ixE ej he1).1, (ixE ej he1).2, ?_⟩
        conv => whnf
        repeat (refine rc_i (by (conv => whnf); first | rfl | exact ⟨(ixE ep hy1).1, (ixE ep hy1).2, rfl⟩ | exact ex2 _ (nthE ep hy1) rfl | exact ⟨(ixE ej he1).1, (ixE ej he1).2, rfl⟩ | exact ex2 _ (nthE ej he1) rfl) ?_; conv => whnf)
        refine ex2 _ (nthE ej he1) ?_
        conv => whnf
        refine ⟨y, rfl, ?_⟩
        conv => whnf
        repeat (refine rc_i (by (conv => whnf); first | rfl | exact ⟨(ixE ep hys).1, (ixE ep hys).2, rfl⟩ | exact ex2 _ (nthE ep hys) rfl | exact ⟨(ixE ej hxs).1, (ixE ej hxs).2, rfl⟩ | exact ex2 _ (nthE ej hxs) rfl) ?_; conv => whnf)
        refine ⟨(ixE ep hys).1, (ixE ep hys).2, ?_⟩
        conv => whnf
        repeat (refine rc_i (by (conv => whnf); first | rfl | exact ⟨(ixE ep hys).1, (ixE ep hys).2, rfl⟩ | exact ex2 _ (nthE ep hys) rfl | exact ⟨(ixE ej hxs).1, (ixE ej hxs).2, rfl⟩ | exact ex2 _ (nthE ej hxs) rfl) ?_; conv => whnf)
        refine ex2 _ (nthE ep hys) ?_
        conv => whnf
        refine ⟨e, rfl, ?_⟩
        conv => whnf
        refine ⟨i, [(0, 0)], S1 (a + i), H0 (l.take a ++ (insAt Z i e ++ l.drop (a + k + 1))), by omega, ⟨rfl, ⟨?_, rfl, rfl, rfl, rfl, rfl, rfl, trivial⟩, ?_, trivial⟩, i, by omega, fun x hx => ?_, rfl, rfl, rfl⟩
        · show V.lf (.int .i64 (IntKind.i64.wrap (((a + (i + 1) : Nat) : Int) - 1))) = _
          rw [ep]
        · rw [← hsw]; rfl
        · have hd2 : Z.drop i = y :: Z.drop (i + 1) := by
            have h1 := List.drop_eq_getElem_cons (List.getElem?_eq_some_iff.1 hy).1
            rw [(List.getElem?_eq_some_iff.1 hy).2] at h1; exact h1
          rw [hd2] at hx
          rcases List.mem_cons.1 hx with rfl | hx
          · exact h7'
          · exact g6 x hx
      · have h7' : ltU e y = false := by
          cases e2 : ltU e y with
          | false => rfl
          | true => exact absurd (hn.2 e2) (of_decide_eq_false h7)
        conv => whnf
        exact done_ (.inr ⟨y, hy, h7'⟩) ⟨rfl, ⟨w2, rfl, rfl, rfl, rfl, rfl, trivial⟩, rfl, trivial⟩
    · have hj : j = 0 := by have := of_decide_eq_false h6; omega
      conv => whnf
      exact done_ (.inl hj) ⟨rfl, ⟨w2, rfl, rfl, rfl, rfl, rfl, trivial⟩, rfl, trivial⟩
  · have hk : b ≤ a + k := by have := of_decide_eq_false h5; omega
    conv => whnf
    rcases g2 with g2 | rfl
    · have hk2 : a + k = b := by omega
      refine ⟨⟨rfl, Z, ?_, g3, ?_⟩⟩
      · show [[D.row 10 VX.ds (l.take a ++ (Z ++ l.drop (a + k)))]] = [[D.row 10 VX.ds (l.take a ++ (Z ++ l.drop b))]]
        rw [hk2]
      · show Z.Perm ((l.drop a).take (b - a))
        rw [show b - a = k by omega]; exact g4
    · rcases (show a = b ∨ a + 1 = b by omega) with h6 | h6
      · subst h6
        have hp : Z.length ≤ 1 := by rw [g4.length_eq, List.length_take]; omega
        have e1 := perm_le1 g4 hp
        refine ⟨⟨rfl, [], ?_, List.Pairwise.nil, ?_⟩⟩
        · show [[D.row 10 VX.ds (l.take a ++ (Z ++ l.drop (a + 1)))]] = [[D.row 10 VX.ds (l.take a ++ ([] ++ l.drop a))]]
          have h7 : l.take a ++ (Z ++ l.drop (a + 1)) = l := by rw [e1]; exact init.symm
          rw [h7, List.nil_append, List.take_append_drop]
        · show ([] : List VX).Perm ((l.drop a).take (a - a))
          rw [Nat.sub_self, List.take_zero]
      · refine ⟨⟨rfl, Z, ?_, g3, ?_⟩⟩
        · show [[D.row 10 VX.ds (l.take a ++ (Z ++ l.drop (a + 1)))]] = [[D.row 10 VX.ds (l.take a ++ (Z ++ l.drop b))]]
          rw [h6]
        · show Z.Perm ((l.drop a).take (b - a))
          rw [show b - a = 1 by omega]; exact g4
theorem insS_ok : FnOk Tryz.prog 172 cInsS := fnOk_of fun x => fnX_at tab_ok (SOk.cons cmpU_ok SOk.nil) mixed (fn := Tryz.f172) (code := body Tryz.f172) ⟨Tryz.func172, rfl, by kernel_rfl, by kernel_rfl, by kernel_rfl, by kernel_rfl⟩ (ev_insS x)
end Go.Vm
namespace Go.Vm
open Go.Proofs
set_option maxRecDepth 100000
set_option linter.unusedVariables false
set_option linter.unusedSimpArgs false
set_option maxHeartbeats 4000000

theorem swap_up {α : Type} {A R Z : List α} {k : Nat} {e y : α} (hy : Z[k]? = some y) : ((A ++ (insAt Z k e ++ R)).set (A.length + k) y).set (A.length + (k + 1)) e = A ++ (insAt Z (k + 1) e ++ R) := by
  have hi := (List.getElem?_eq_some_iff.1 hy).1
  have e1 : insAt Z (k + 1) e = Z.take k ++ (y :: e :: Z.drop (k + 1)) := by
    unfold insAt
    rw [List.take_add_one, hy]; simp
  have e2 : insAt Z k e = Z.take k ++ (e :: y :: Z.drop (k + 1)) := by
    unfold insAt
    rw [List.drop_eq_getElem_cons hi, (List.getElem?_eq_some_iff.1 hy).2]
  have hl : (Z.take k).length = k := by rw [List.length_take]; omega
  rw [e1, e2, List.set_append_right _ _ (by omega), List.set_append_right _ _ (by omega)]
  simp only [Nat.add_sub_cancel_left, List.append_assoc]
  rw [List.set_append_right _ _ (by omega), List.set_append_right _ _ (by omega), hl, show k + 1 - k = 1 by omega, Nat.sub_self]; rfl
theorem up_at {α : Type} {A R Z : List α} {k : Nat} {e : α} (hk : k < Z.length) : (A ++ (insAt Z k e ++ R))[A.length + (k + 1)]? = Z[k]? := by
  rw [List.getElem?_append_right (by omega), Nat.add_sub_cancel_left, List.getElem?_append_left (by rw [insAt_len]; omega), insAt_get e (by omega), if_neg (by omega), if_neg (by omega)]; rfl
theorem up_from {α : Type} {A R Z : List α} {k j : Nat} {e : α} (hk : k ≤ Z.length) (hj : j < k) : (A ++ (insAt Z k e ++ R))[A.length + j]? = Z[j]? := by
  rw [List.getElem?_append_right (by omega), Nat.add_sub_cancel_left, List.getElem?_append_left (by rw [insAt_len]; omega), insAt_get e hk, if_pos hj]
section
variable {α : Type} {lt : α → α → Bool}
/-- An element goes behind those that are less. -/
theorem up_done (o : Swo lt) {Y : List α} {k : Nat} {x : α} (hs : Sd lt Y) (hk : k ≤ Y.length) (h1 : ∀ y ∈ Y.take k, lt y x = true) (h2 : ∀ y ∈ Y.drop k, lt y x = false) : Sd lt (insAt Y k x) ∧ (insAt Y k x).Perm ([x] ++ Y) := by
  have hY : Y = Y.take k ++ Y.drop k := (List.take_append_drop k Y).symm
  constructor
  · unfold insAt
    rw [hY, sd_app] at hs
    rw [sd_app]
    refine ⟨hs.1, List.pairwise_cons.2 ⟨fun y hy => h2 y hy, hs.2.1⟩, fun a ha b hb => ?_⟩
    rcases List.mem_cons.1 hb with rfl | hb
    · exact o.lt_le (h1 a ha)
    · exact hs.2.2 a ha b hb
  · unfold insAt
    conv => rhs; rw [hY]
    exact List.perm_middle
theorem lt_before (o : Swo lt) {Y : List α} (hs : Sd lt Y) {h : Nat} {y x : α} (hy : Y[h]? = some y) (hx : lt y x = true) : ∀ a ∈ Y.take (h + 1), lt a x = true := by
  intro a ha
  obtain ⟨i, hi⟩ := List.getElem?_of_mem ha
  rw [List.getElem?_take] at hi
  split at hi
  · rename_i hlt
    rcases Nat.lt_or_ge i h with h1 | h1
    · have h2 := sd_get hs h1 hi hy
      rcases o.neg y a x hx with h3 | h3
      · rw [h2] at h3; cases h3
      · exact h3
    · obtain rfl : i = h := by omega
      rw [hy] at hi; cases hi; exact hx
  · cases hi
theorem ge_behind (o : Swo lt) {Y : List α} (hs : Sd lt Y) {h : Nat} {y x : α} (hy : Y[h]? = some y) (hx : lt y x = false) : ∀ a ∈ Y.drop h, lt a x = false := by
  intro a ha
  obtain ⟨i, hi⟩ := List.getElem?_of_mem ha
  rw [List.getElem?_drop] at hi
  rcases Nat.eq_zero_or_pos i with rfl | h1
  · rw [Nat.add_zero, hy] at hi; cases hi; exact hx
  · have h2 := sd_get hs (show h < h + i by omega) hy hi
    cases e : lt a x with
    | false => rfl
    | true =>
      rcases o.neg a y x e with h3 | h3
      · rw [h2] at h3; cases h3
      · rw [hx] at h3; cases h3
theorem le_before (o : Swo lt) {X : List α} (hs : Sd lt X) {h : Nat} {y x : α} (hx : X[h]? = some x) (hy : lt y x = false) : ∀ a ∈ X.take (h + 1), lt y a = false := by
  intro a ha
  obtain ⟨i, hi⟩ := List.getElem?_of_mem ha
  rw [List.getElem?_take] at hi
  split at hi
  · rename_i hlt
    rcases Nat.lt_or_ge i h with h1 | h1
    · have h2 := sd_get hs h1 hi hx
      cases e : lt y a with
      | false => rfl
      | true =>
        rcases o.neg y x a e with h3 | h3
        · rw [hy] at h3; cases h3
        · rw [h2] at h3; cases h3
    · obtain rfl : i = h := by omega
      rw [hx] at hi; cases hi; exact hy
  · cases hi
theorem gt_behind (o : Swo lt) {X : List α} (hs : Sd lt X) {h : Nat} {y x : α} (hx : X[h]? = some x) (hy : lt y x = true) : ∀ a ∈ X.drop h, lt y a = true := by
  intro a ha
  obtain ⟨i, hi⟩ := List.getElem?_of_mem ha
  rw [List.getElem?_drop] at hi
  rcases Nat.eq_zero_or_pos i with rfl | h1
  · rw [Nat.add_zero, hx] at hi; cases hi; exact hy
  · have h2 := sd_get hs (show h < h + i by omega) hx hi
    rcases o.neg y a x hy with h3 | h3
    · exact h3
    · rw [h2] at h3; cases h3
end
/-- A fact that omega does not look at. -/
def Hid (p : Prop) : Prop := p
theorem Hid.out {p : Prop} (h : Hid p) : p := h
structure SymX where
  A : List VX
  X : List VX
  Y : List VX
  B : List VX
  hx : X ≠ []
  hy : Y ≠ []
  sx : Sd ltU X
  sy : Sd ltU Y
  hl : (A ++ (X ++ (Y ++ B))).length ≤ 200
def cSym : Con := { X := SymX, params := [(.mut, false), (.rd, false), (.rd, false), (.rd, false), (.rd, false)], res := [], resOwn := true, ins := fun x => [[.row 10 VX.ds (x.A ++ (x.X ++ (x.Y ++ x.B)))], [.lf (.int .i64 (x.A.length : Nat))], [.lf (.int .i64 (x.A.length + x.X.length : Nat))], [.lf (.int .i64 (x.A.length + x.X.length + x.Y.length : Nat))], [cmpD]], post := fun x outs r => r = [] ∧ ∃ Z, outs = [[.row 10 VX.ds (x.A ++ (Z ++ x.B))]] ∧ Sd ltU Z ∧ Z.Perm (x.X ++ x.Y) }
theorem ev_symU : ∀ n x, (fun a => a.X.length + a.Y.length) x = n → evFnX tab [(173, cSym.below (fun a => a.X.length + a.Y.length) n), (1000041, cGh), (1000043, cGh), (75, cCmpU), (194, cRot)] cSym Tryz.f173 (body Tryz.f173) x := by
  rintro N ⟨A, X, Y, B, hx, hy, sx, sy, hl⟩ rfl
  have hx1 : 0 < X.length := by cases X with | nil => exact absurd rfl hx | cons a X => simp
  have hy1 : 0 < Y.length := by cases Y with | nil => exact absurd rfl hy | cons a Y => simp
  have hlen : (A ++ (X ++ (Y ++ B))).length = A.length + X.length + Y.length + B.length := by simp; omega
  have hl2 : A.length + X.length + Y.length + B.length ≤ 200 := by rw [← hlen]; exact hl
  have w1 : IntKind.i64.wrap (((A.length + X.length : Nat) : Int) - (A.length : Int)) = (X.length : Int) := by rw [w64 (by omega) (by omega)]; omega
  have w2 : IntKind.i64.wrap (((A.length + X.length + Y.length : Nat) : Int) - ((A.length + X.length : Nat) : Int)) = (Y.length : Int) := by rw [w64 (by omega) (by omega)]; omega
  let H0 : List VX → Hp := fun q => [(0, some (.row .own 10 VX.ds q))]
  conv => whnf
  refine br2 (fun h1 => ?_) (fun h1 => ?_)
  · replace h1 : (IntKind.i64.wrap (((A.length + X.length : Nat) : Int) - (A.length : Int)) == 1) = true := h1
    rw [w1] at h1
    obtain ⟨x, rfl⟩ : ∃ x, X = [x] := List.length_eq_one_iff.1 (by simp at h1; omega)
    have q0 : A ++ ([x] ++ (Y ++ B)) = A ++ (insAt Y 0 x ++ B) := by simp [insAt]
    conv => whnf
    let S0 : Nat → Nat → Sl := fun u v => [(11, .lf (.int .i64 ((A.length + 1 + v : Nat) : Int))), (10, .lf (.int .i64 ((A.length + 1 + u : Nat) : Int))), (4, .fn 75 []), (1, .lf (.int .i64 (A.length : Int))), (1000000, .sl 0 none), (0, .sl 0 none)]
    refine ⟨fun z s h => ∃ (u v : Nat), u ≤ v ∧ v ≤ Y.length ∧ (∀ y ∈ Y.take u, ltU y x = true) ∧ (∀ y ∈ Y.drop v, ltU y x = false) ∧ z = v - u ∧ s = S0 u v ∧ h = H0 (A ++ (insAt Y 0 x ++ B)), Y.length, [(0, 0)], S0 0 Y.length, H0 (A ++ (insAt Y 0 x ++ B)), ⟨rfl, ⟨(by rfl), (by rfl), rfl, rfl, rfl, rfl, trivial⟩, (by rw [← q0]; rfl), trivial⟩, ⟨0, Y.length, by omega, by omega, by simp, by simp, by omega, rfl, rfl⟩, ?_⟩
    rintro z _ _ ⟨u, v, g1, g2, g3, g4, rfl, rfl, rfl⟩
    conv => whnf
    refine br2 (fun h2 => ?_) (fun h2 => ?_)
    · have huv : u < v := by have := of_decide_eq_true h2; omega
      have hw := half_eq (show (A.length + 1 + u) + (A.length + 1 + v) ≤ 4000000 by omega)
      obtain ⟨h, e3, e4, e5⟩ : ∃ h, ((A.length + 1 + u) + (A.length + 1 + v)) / 2 = A.length + (h + 1) ∧ u ≤ h ∧ h < v := ⟨(u + v) / 2, by omega, by omega, by omega⟩
      rw [e3] at hw
      obtain ⟨y, hyh⟩ := getL (l := Y) (j := h) (by omega)
      have hq : (A ++ (insAt Y 0 x ++ B))[A.length + (h + 1)]? = some y := by
        rw [List.getElem?_append_right (by omega), Nat.add_sub_cancel_left, List.getElem?_append_left (by rw [insAt_len]; omega), insAt_get x (by omega), if_neg (by omega), if_neg (by omega)]; exact hyh
      have hp : (A ++ (insAt Y 0 x ++ B))[A.length]? = some x := by simp [insAt]
      have ep : ((A.length : Nat) : Int) = ((A.length : Nat) : Int) := rfl
      have hw1 : V.lf (.int .i64 (IntKind.i64.wrap (IntKind.i64.wrap ((IntKind.u64.wrap (IntKind.i64.wrap (((A.length + 1 + u : Nat) : Int) + ((A.length + 1 + v : Nat) : Int)))).fdiv (2 ^ (min (1 : Int).toNat IntKind.u64.bits))) + 1))) = V.lf (.int .i64 ((A.length + 1 + (h + 1) : Nat) : Int)) := by rw [hw, w64 (by omega) (by omega)]; congr 2; omega
      have hw2 : V.lf (.int .i64 (IntKind.i64.wrap ((IntKind.u64.wrap (IntKind.i64.wrap (((A.length + 1 + u : Nat) : Int) + ((A.length + 1 + v : Nat) : Int)))).fdiv (2 ^ (min (1 : Int).toNat IntKind.u64.bits))))) = V.lf (.int .i64 ((A.length + 1 + h : Nat) : Int)) := by rw [hw]; congr 2; omega
      conv => whnf
      refine ⟨(ixE hw hq).1, (ixE hw hq).2, ?_⟩
      conv => whnf
      refine ex2 _ (nthE hw hq) ?_
      conv => whnf
      repeat (refine rc_i (by (conv => whnf); first | rfl | exact ⟨(ixE hw hq).1, (ixE hw hq).2, rfl⟩ | exact ex2 _ (nthE hw hq) rfl) ?_; conv => whnf)
      refine ⟨(ixE ep hp).1, (ixE ep hp).2, ?_⟩
      conv => whnf
      refine ex2 _ (nthE ep hp) ?_
      conv => whnf
      repeat (refine rc_i (by (conv => whnf); first | rfl | exact ⟨(ixE hw hq).1, (ixE hw hq).2, rfl⟩ | exact ex2 _ (nthE hw hq) rfl | exact ⟨(ixE ep hp).1, (ixE ep hp).2, rfl⟩ | exact ex2 _ (nthE ep hp) rfl) ?_; conv => whnf)
      refine ⟨(y, x), rfl, ?_⟩
      rintro _ _ ⟨rfl, n, rfl, hn⟩
      replace hn : n < 0 ↔ ltU y x = true := hn
      conv => whnf
      repeat (refine rc_i (by (conv => whnf); first | rfl | exact ⟨(ixE hw hq).1, (ixE hw hq).2, rfl⟩ | exact ex2 _ (nthE hw hq) rfl | exact ⟨(ixE ep hp).1, (ixE ep hp).2, rfl⟩ | exact ex2 _ (nthE ep hp) rfl) ?_; conv => whnf)
      refine br2 (fun h3 => ?_) (fun h3 => ?_)
      · have h3' := hn.1 (of_decide_eq_true h3)
        conv => whnf
        refine ⟨v - (h + 1), [(0, 0)], S0 (h + 1) v, H0 (A ++ (insAt Y 0 x ++ B)), by omega, ⟨rfl, ⟨rfl, ?_, rfl, rfl, rfl, rfl, trivial⟩, rfl, trivial⟩, h + 1, v, by omega, g2, lt_before ltU_swo sy hyh h3', g4, rfl, rfl, rfl⟩
        exact hw1
      · have h3' : ltU y x = false := by
          cases e : ltU y x with
          | false => rfl
          | true => exact absurd (hn.2 e) (of_decide_eq_false h3)
        conv => whnf
        refine ⟨h - u, [(0, 0)], S0 u h, H0 (A ++ (insAt Y 0 x ++ B)), by omega, ⟨rfl, ⟨?_, rfl, rfl, rfl, rfl, rfl, trivial⟩, rfl, trivial⟩, u, h, by omega, by omega, g3, ge_behind ltU_swo sy hyh h3', rfl, rfl, rfl⟩
        exact hw2
    · have huv : u = v := by have := of_decide_eq_false h2; omega
      subst huv
      have w3 : IntKind.i64.wrap (((A.length + 1 + u : Nat) : Int) - 1) = ((A.length + u : Nat) : Int) := by rw [w64 (by omega) (by omega)]; omega
      conv => whnf
      let S1 : Nat → Sl := fun t => [(13, .lf (.int .i64 ((A.length + t : Nat) : Int))), (10, .lf (.int .i64 ((A.length + 1 + u : Nat) : Int))), (1000000, .sl 0 none), (0, .sl 0 none)]
      refine ⟨fun z s h => ∃ t : Nat, t ≤ u ∧ z = u - t ∧ s = S1 t ∧ h = H0 (A ++ (insAt Y t x ++ B)), u, [(0, 0)], S1 0, H0 (A ++ (insAt Y 0 x ++ B)), ⟨rfl, ⟨rfl, rfl, rfl, rfl, trivial⟩, rfl, trivial⟩, ⟨0, by omega, by omega, rfl, rfl⟩, ?_⟩
      rintro z _ _ ⟨t, f1, rfl, rfl, rfl⟩
      conv => whnf
      refine br2 (fun h3 => ?_) (fun h3 => ?_)
      · have ht : t < u := by
          have h4 : ((A.length + t : Nat) : Int) < IntKind.i64.wrap (((A.length + 1 + u : Nat) : Int) - 1) := of_decide_eq_true h3
          rw [w3] at h4; omega
        obtain ⟨y, hyt⟩ := getL (l := Y) (j := t) (by omega)
        have e1 : ((A.length + t : Nat) : Int) = ((A.length + t : Nat) : Int) := rfl
        have e2 : IntKind.i64.wrap (((A.length + t : Nat) : Int) + 1) = ((A.length + (t + 1) : Nat) : Int) := by rw [w64 (by omega) (by omega)]; omega
        have hsw := swap_up (A := A) (R := B) (e := x) hyt
        have p1 : (A ++ (insAt Y t x ++ B))[A.length + t]? = some x := ins_at (by omega)
        have p2 : (A ++ (insAt Y t x ++ B))[A.length + (t + 1)]? = some y := by rw [up_at (by omega)]; exact hyt
        have n1 : (((A.length + t : Nat) : Int)).toNat = A.length + t := rfl
        have n2 : (IntKind.i64.wrap (((A.length + t : Nat) : Int) + 1)).toNat = A.length + (t + 1) := by rw [e2]; rfl
        have hql : (A ++ (insAt Y t x ++ B)).length = A.length + 1 + Y.length + B.length := by rw [List.length_append, List.length_append, insAt_len]; omega
        generalize A ++ (insAt Y t x ++ B) = q at *
        have hxs : (q.set (((A.length + t : Nat) : Int)).toNat y)[A.length + t]? = some y := by rw [n1, List.getElem?_set_self (by omega)]
        have hys : (q.set (((A.length + t : Nat) : Int)).toNat y)[A.length + (t + 1)]? = some y := by rw [n1, List.getElem?_set_ne (by omega)]; exact p2
        rw [← n1, ← n2] at hsw
        conv => whnf
        refine ⟨(ixE e2 p2).1, (ixE e2 p2).2, ?_⟩
        conv => whnf
        refine ex2 _ (nthE e2 p2) ?_
        conv => whnf
        repeat (refine rc_i (by (conv => whnf); first | rfl | exact ⟨(ixE e2 p2).1, (ixE e2 p2).2, rfl⟩ | exact ex2 _ (nthE e2 p2) rfl) ?_; conv => whnf)
        refine ⟨(ixE e1 p1).1, (ixE e1 p1).2, ?_⟩
        conv => whnf
        refine ex2 _ (nthE e1 p1) ?_
        conv => whnf
        repeat (refine rc_i (by (conv => whnf); first | rfl | exact ⟨(ixE e2 p2).1, (ixE e2 p2).2, rfl⟩ | exact ex2 _ (nthE e2 p2) rfl | exact ⟨(ixE e1 p1).1, (ixE e1 p1).2, rfl⟩ | exact ex2 _ (nthE e1 p1) rfl) ?_; conv => whnf)
        refine ⟨(ixE e1 p1).1, (ixE e1 p1).2, ?_⟩
        conv => whnf
        repeat (refine rc_i (by (conv => whnf); first | rfl | exact ⟨(ixE e2 p2).1, (ixE e2 p2).2, rfl⟩ | exact ex2 _ (nthE e2 p2) rfl | exact ⟨(ixE e1 p1).1, (ixE e1 p1).2, rfl⟩ | exact ex2 _ (nthE e1 p1) rfl) ?_; conv => whnf)
        refine ex2 _ (nthE e1 p1) ?_
        conv => whnf
        refine ⟨y, rfl, ?_⟩
        conv => whnf
        repeat (refine rc_i (by (conv => whnf); first | rfl | exact ⟨(ixE e2 hys).1, (ixE e2 hys).2, rfl⟩ | exact ex2 _ (nthE e2 hys) rfl | exact ⟨(ixE e1 hxs).1, (ixE e1 hxs).2, rfl⟩ | exact ex2 _ (nthE e1 hxs) rfl) ?_; conv => whnf)
        refine ⟨(ixE e2 hys).1, (ixE e2 hys).2, ?_⟩
        conv => whnf
        repeat (refine rc_i (by (conv => whnf); first | rfl | exact ⟨(ixE e2 hys).1, (ixE e2 hys).2, rfl⟩ | exact ex2 _ (nthE e2 hys) rfl | exact ⟨(ixE e1 hxs).1, (ixE e1 hxs).2, rfl⟩ | exact ex2 _ (nthE e1 hxs) rfl) ?_; conv => whnf)
        refine ex2 _ (nthE e2 hys) ?_
        conv => whnf
        refine ⟨x, rfl, ?_⟩
        conv => whnf
        refine ⟨u - (t + 1), [(0, 0)], S1 (t + 1), H0 (A ++ (insAt Y (t + 1) x ++ B)), by omega, ⟨rfl, ⟨?_, rfl, rfl, rfl, trivial⟩, ?_, trivial⟩, t + 1, by omega, rfl, rfl, rfl⟩
        · show V.lf (.int .i64 (IntKind.i64.wrap (((A.length + t : Nat) : Int) + 1))) = _
          rw [e2]
        · rw [← hsw]; rfl
      · have ht : t = u := by
          have h4 : ¬ ((A.length + t : Nat) : Int) < IntKind.i64.wrap (((A.length + 1 + u : Nat) : Int) - 1) := of_decide_eq_false h3
          rw [w3] at h4; omega
        subst ht
        obtain ⟨s1, s2⟩ := up_done ltU_swo sy g2 g3 g4
        conv => whnf
        exact ⟨⟨rfl, insAt Y t x, rfl, s1, s2⟩⟩
  replace h1 : (IntKind.i64.wrap (((A.length + X.length : Nat) : Int) - (A.length : Int)) == 1) = false := h1
  rw [w1] at h1
  conv => whnf
  refine br2 (fun h2 => ?_) (fun h2 => ?_)
  · replace h2 : (IntKind.i64.wrap (((A.length + X.length + Y.length : Nat) : Int) - ((A.length + X.length : Nat) : Int)) == 1) = true := h2
    rw [w2] at h2
    obtain ⟨y, rfl⟩ : ∃ y, Y = [y] := List.length_eq_one_iff.1 (by simp at h2; omega)
    have q0 : A ++ (X ++ ([y] ++ B)) = A ++ (insAt X X.length y ++ B) := by rw [insAt_zero_end]; simp
    conv => whnf
    let S0 : Nat → Nat → Sl := fun u v => [(15, .lf (.int .i64 ((A.length + v : Nat) : Int))), (14, .lf (.int .i64 ((A.length + u : Nat) : Int))), (4, .fn 75 []), (2, .lf (.int .i64 ((A.length + X.length : Nat) : Int))), (1000000, .sl 0 none), (0, .sl 0 none)]
    refine ⟨fun z s h => ∃ (u v : Nat), u ≤ v ∧ v ≤ X.length ∧ (∀ x ∈ X.take u, ltU y x = false) ∧ (∀ x ∈ X.drop v, ltU y x = true) ∧ z = v - u ∧ s = S0 u v ∧ h = H0 (A ++ (insAt X X.length y ++ B)), X.length, [(0, 0)], S0 0 X.length, H0 (A ++ (insAt X X.length y ++ B)), ⟨rfl, ⟨rfl, rfl, rfl, rfl, rfl, rfl, trivial⟩, (by rw [← q0]; rfl), trivial⟩, ⟨0, X.length, by omega, by omega, by simp, by simp, by omega, rfl, rfl⟩, ?_⟩
    rintro z _ _ ⟨u, v, g1, g2, g3, g4, rfl, rfl, rfl⟩
    conv => whnf
    refine br2 (fun h2 => ?_) (fun h2 => ?_)
    · have huv : u < v := by have := of_decide_eq_true h2; omega
      have hw := half_eq (show (A.length + u) + (A.length + v) ≤ 4000000 by omega)
      obtain ⟨h, e3, e4, e5⟩ : ∃ h, ((A.length + u) + (A.length + v)) / 2 = A.length + h ∧ u ≤ h ∧ h < v := ⟨(u + v) / 2, by omega, by omega, by omega⟩
      rw [e3] at hw
      obtain ⟨x, hxh⟩ := getL (l := X) (j := h) (by omega)
      have hq : (A ++ (insAt X X.length y ++ B))[A.length + h]? = some x := by rw [up_from (by omega) (by omega)]; exact hxh
      have hp : (A ++ (insAt X X.length y ++ B))[A.length + X.length]? = some y := ins_at (by omega)
      have ep : ((A.length + X.length : Nat) : Int) = ((A.length + X.length : Nat) : Int) := rfl
      have hw1 : V.lf (.int .i64 (IntKind.i64.wrap (IntKind.i64.wrap ((IntKind.u64.wrap (IntKind.i64.wrap (((A.length + u : Nat) : Int) + ((A.length + v : Nat) : Int)))).fdiv (2 ^ (min (1 : Int).toNat IntKind.u64.bits))) + 1))) = V.lf (.int .i64 ((A.length + (h + 1) : Nat) : Int)) := by rw [hw, w64 (by omega) (by omega)]; congr 2
      have hw2 : V.lf (.int .i64 (IntKind.i64.wrap ((IntKind.u64.wrap (IntKind.i64.wrap (((A.length + u : Nat) : Int) + ((A.length + v : Nat) : Int)))).fdiv (2 ^ (min (1 : Int).toNat IntKind.u64.bits))))) = V.lf (.int .i64 ((A.length + h : Nat) : Int)) := by rw [hw]
      conv => whnf
      refine ⟨(ixE ep hp).1, (ixE ep hp).2, ?_⟩
      conv => whnf
      refine ex2 _ (nthE ep hp) ?_
      conv => whnf
      repeat (refine rc_i (by (conv => whnf); first | rfl | exact ⟨(ixE hw hq).1, (ixE hw hq).2, rfl⟩ | exact ex2 _ (nthE hw hq) rfl | exact ⟨(ixE ep hp).1, (ixE ep hp).2, rfl⟩ | exact ex2 _ (nthE ep hp) rfl) ?_; conv => whnf)
      refine ⟨(ixE hw hq).1, (ixE hw hq).2, ?_⟩
      conv => whnf
      refine ex2 _ (nthE hw hq) ?_
      conv => whnf
      repeat (refine rc_i (by (conv => whnf); first | rfl | exact ⟨(ixE hw hq).1, (ixE hw hq).2, rfl⟩ | exact ex2 _ (nthE hw hq) rfl | exact ⟨(ixE ep hp).1, (ixE ep hp).2, rfl⟩ | exact ex2 _ (nthE ep hp) rfl) ?_; conv => whnf)
      refine ⟨(y, x), rfl, ?_⟩
      rintro _ _ ⟨rfl, n, rfl, hn⟩
      replace hn : n < 0 ↔ ltU y x = true := hn
      conv => whnf
      repeat (refine rc_i (by (conv => whnf); first | rfl | exact ⟨(ixE hw hq).1, (ixE hw hq).2, rfl⟩ | exact ex2 _ (nthE hw hq) rfl | exact ⟨(ixE ep hp).1, (ixE ep hp).2, rfl⟩ | exact ex2 _ (nthE ep hp) rfl) ?_; conv => whnf)
      refine br2 (fun h3 => ?_) (fun h3 => ?_)
      · have h3' : ltU y x = false := by
          replace h3 : (!decide (n < 0)) = true := h3
          rw [Bool.not_eq_true'] at h3
          cases e : ltU y x with
          | false => rfl
          | true => exact absurd (hn.2 e) (of_decide_eq_false h3)
        conv => whnf
        refine ⟨v - (h + 1), [(0, 0)], S0 (h + 1) v, H0 (A ++ (insAt X X.length y ++ B)), by omega, ⟨rfl, ⟨rfl, ?_, rfl, rfl, rfl, rfl, trivial⟩, rfl, trivial⟩, h + 1, v, by omega, g2, le_before ltU_swo sx hxh h3', g4, rfl, rfl, rfl⟩
        exact hw1
      · have h3' : ltU y x = true := by
          replace h3 : (!decide (n < 0)) = false := h3
          rw [Bool.not_eq_false'] at h3
          exact hn.1 (of_decide_eq_true h3)
        conv => whnf
        refine ⟨h - u, [(0, 0)], S0 u h, H0 (A ++ (insAt X X.length y ++ B)), by omega, ⟨rfl, ⟨?_, rfl, rfl, rfl, rfl, rfl, trivial⟩, rfl, trivial⟩, u, h, by omega, by omega, g3, gt_behind ltU_swo sx hxh h3', rfl, rfl, rfl⟩
        exact hw2
    · have huv : u = v := by have := of_decide_eq_false h2; omega
      subst huv
      conv => whnf
      let S1 : Nat → Sl := fun t => [(17, .lf (.int .i64 ((A.length + t : Nat) : Int))), (14, .lf (.int .i64 ((A.length + u : Nat) : Int))), (1000000, .sl 0 none), (0, .sl 0 none)]
      refine ⟨fun z s h => ∃ t : Nat, u ≤ t ∧ t ≤ X.length ∧ z = t - u ∧ s = S1 t ∧ h = H0 (A ++ (insAt X t y ++ B)), X.length - u, [(0, 0)], S1 X.length, H0 (A ++ (insAt X X.length y ++ B)), ⟨rfl, ⟨rfl, rfl, rfl, rfl, trivial⟩, rfl, trivial⟩, ⟨X.length, by omega, by omega, by omega, rfl, rfl⟩, ?_⟩
      rintro z _ _ ⟨t, f1, f2, rfl, rfl, rfl⟩
      conv => whnf
      refine br2 (fun h3 => ?_) (fun h3 => ?_)
      · have ht : u < t := by
          have h4 : ((A.length + t : Nat) : Int) > ((A.length + u : Nat) : Int) := of_decide_eq_true h3
          omega
        obtain ⟨t, rfl⟩ : ∃ i, t = i + 1 := ⟨t - 1, by omega⟩
        obtain ⟨x, hxt⟩ := getL (l := X) (j := t) (by omega)
        have e1 : ((A.length + (t + 1) : Nat) : Int) = ((A.length + (t + 1) : Nat) : Int) := rfl
        have e2 : IntKind.i64.wrap (((A.length + (t + 1) : Nat) : Int) - 1) = ((A.length + t : Nat) : Int) := by rw [w64 (by omega) (by omega)]; omega
        have hsw := ins_swap (A := A) (R := B) (e := y) hxt
        have p1 : (A ++ (insAt X (t + 1) y ++ B))[A.length + (t + 1)]? = some y := ins_at (by omega)
        have p2 : (A ++ (insAt X (t + 1) y ++ B))[A.length + t]? = some x := by rw [ins_below (by omega)]; exact hxt
        have n1 : (((A.length + (t + 1) : Nat) : Int)).toNat = A.length + (t + 1) := rfl
        have n2 : (IntKind.i64.wrap (((A.length + (t + 1) : Nat) : Int) - 1)).toNat = A.length + t := by rw [e2]; rfl
        have hql : (A ++ (insAt X (t + 1) y ++ B)).length = A.length + 1 + X.length + B.length := by rw [List.length_append, List.length_append, insAt_len]; omega
        generalize A ++ (insAt X (t + 1) y ++ B) = q at *
        have hxs : (q.set (((A.length + (t + 1) : Nat) : Int)).toNat x)[A.length + (t + 1)]? = some x := by rw [n1, List.getElem?_set_self (by omega)]
        have hys : (q.set (((A.length + (t + 1) : Nat) : Int)).toNat x)[A.length + t]? = some x := by rw [n1, List.getElem?_set_ne (by omega)]; exact p2
        rw [← n1, ← n2] at hsw
        conv => whnf
        refine ⟨(ixE e2 p2).1, (ixE e2 p2).2, ?_⟩
        conv => whnf
        refine ex2 _ (nthE e2 p2) ?_
        conv => whnf
        repeat (refine rc_i (by (conv => whnf); first | rfl | exact ⟨(ixE e2 p2).1, (ixE e2 p2).2, rfl⟩ | exact ex2 _ (nthE e2 p2) rfl) ?_; conv => whnf)
        refine ⟨(ixE e1 p1).1, (ixE e1 p1).2, ?_⟩
        conv => whnf
        refine ex2 _ (nthE e1 p1) ?_
        conv => whnf
        repeat (refine rc_i (by (conv => whnf); first | rfl | exact ⟨(ixE e2 p2).1, (ixE e2 p2).2, rfl⟩ | exact ex2 _ (nthE e2 p2) rfl | exact ⟨(ixE e1 p1).1, (ixE e1 p1).2, rfl⟩ | exact ex2 _ (nthE e1 p1) rfl) ?_; conv => whnf)
        refine ⟨(ixE e1 p1).1, (ixE e1 p1).2, ?_⟩
        conv => whnf
        repeat (refine rc_i (by (conv => whnf); first | rfl | exact ⟨(ixE e2 p2).1, (ixE e2 p2).2, rfl⟩ | exact ex2 _ (nthE e2 p2) rfl | exact ⟨(ixE e1 p1).1, (ixE e1 p1).2, rfl⟩ | exact ex2 _ (nthE e1 p1) rfl) ?_; conv => whnf)
        refine ex2 _ (nthE e1 p1) ?_
        conv => whnf
        refine ⟨x, rfl, ?_⟩
        conv => whnf
        repeat (refine rc_i (by (conv => whnf); first | rfl | exact ⟨(ixE e2 hys).1, (ixE e2 hys).2, rfl⟩ | exact ex2 _ (nthE e2 hys) rfl | exact ⟨(ixE e1 hxs).1, (ixE e1 hxs).2, rfl⟩ | exact ex2 _ (nthE e1 hxs) rfl) ?_; conv => whnf)
        refine ⟨(ixE e2 hys).1, (ixE e2 hys).2, ?_⟩
        conv => whnf
        repeat (refine rc_i (by (conv => whnf); first | rfl | exact ⟨(ixE e2 hys).1, (ixE e2 hys).2, rfl⟩ | exact ex2 _ (nthE e2 hys) rfl | exact ⟨(ixE e1 hxs).1, (ixE e1 hxs).2, rfl⟩ | exact ex2 _ (nthE e1 hxs) rfl) ?_; conv => whnf)
        refine ex2 _ (nthE e2 hys) ?_
        conv => whnf
        refine ⟨y, rfl, ?_⟩
        conv => whnf
        refine ⟨t - u, [(0, 0)], S1 t, H0 (A ++ (insAt X t y ++ B)), by omega, ⟨rfl, ⟨?_, rfl, rfl, rfl, trivial⟩, ?_, trivial⟩, t, by omega, by omega, rfl, rfl, rfl⟩
        · show V.lf (.int .i64 (IntKind.i64.wrap (((A.length + (t + 1) : Nat) : Int) - 1))) = _
          rw [e2]
        · rw [← hsw]; rfl
      · have ht : t = u := by
          have h4 : ¬ ((A.length + t : Nat) : Int) > ((A.length + u : Nat) : Int) := of_decide_eq_false h3
          omega
        subst ht
        obtain ⟨s1, s2⟩ := ins_done ltU_swo sx f2 g4 (by
          rcases Nat.eq_zero_or_pos t with h4 | h4
          · exact .inl h4
          · obtain ⟨x, hxt⟩ := getL (l := X) (j := t - 1) (by omega)
            refine .inr ⟨x, hxt, g3 x ?_⟩
            refine List.mem_of_getElem? (i := t - 1) ?_
            rw [List.getElem?_take, if_pos (by omega)]; exact hxt)
        conv => whnf
        exact ⟨⟨rfl, insAt X t y, rfl, s1, s2⟩⟩
  replace h2 : (IntKind.i64.wrap (((A.length + X.length + Y.length : Nat) : Int) - ((A.length + X.length : Nat) : Int)) == 1) = false := h2
  rw [w2] at h2
  have hx2 : X.length ≠ 1 := by simp at h1; omega
  have hy2 : Y.length ≠ 1 := by simp at h2; omega
  obtain ⟨g, hg1, hg2⟩ : ∃ g, (A.length + (A.length + X.length + Y.length)) / 2 = A.length + g ∧ (2 * g = X.length + Y.length ∨ 2 * g + 1 = X.length + Y.length) := ⟨(X.length + Y.length) / 2, by omega, by omega⟩
  have hw := half_eq (show A.length + (A.length + X.length + Y.length) ≤ 4000000 by omega)
  rw [hg1] at hw
  have wn : IntKind.i64.wrap (IntKind.i64.wrap ((IntKind.u64.wrap (IntKind.i64.wrap (((A.length : Nat) : Int) + ((A.length + X.length + Y.length : Nat) : Int)))).fdiv (2 ^ (min (1 : Int).toNat IntKind.u64.bits))) + ((A.length + X.length : Nat) : Int)) = ((A.length + A.length + g + X.length : Nat) : Int) := by rw [hw, w64 (by omega) (by omega)]; omega
  have e22 : V.lf (.int .i64 (IntKind.i64.wrap (IntKind.i64.wrap (IntKind.i64.wrap ((IntKind.u64.wrap (IntKind.i64.wrap (((A.length : Nat) : Int) + ((A.length + X.length + Y.length : Nat) : Int)))).fdiv (2 ^ (min (1 : Int).toNat IntKind.u64.bits))) + ((A.length + X.length : Nat) : Int)) - 1))) = V.lf (.int .i64 ((A.length + A.length + g + X.length - 1 : Nat) : Int)) := by rw [wn, w64 (by omega) (by omega)]; congr 2; omega
  have e19 : V.lf (.int .i64 (IntKind.i64.wrap (IntKind.i64.wrap ((IntKind.u64.wrap (IntKind.i64.wrap (((A.length : Nat) : Int) + ((A.length + X.length + Y.length : Nat) : Int)))).fdiv (2 ^ (min (1 : Int).toNat IntKind.u64.bits))) + ((A.length + X.length : Nat) : Int)))) = V.lf (.int .i64 ((A.length + A.length + g + X.length : Nat) : Int)) := by rw [wn]
  have e18 : V.lf (.int .i64 (IntKind.i64.wrap ((IntKind.u64.wrap (IntKind.i64.wrap (((A.length : Nat) : Int) + ((A.length + X.length + Y.length : Nat) : Int)))).fdiv (2 ^ (min (1 : Int).toNat IntKind.u64.bits))))) = V.lf (.int .i64 ((A.length + g : Nat) : Int)) := by rw [hw]
  let S4 : Nat → Nat → Sl := fun u v => [(21, .lf (.int .i64 ((A.length + v : Nat) : Int))), (20, .lf (.int .i64 ((A.length + u : Nat) : Int))), (22, .lf (.int .i64 ((A.length + A.length + g + X.length - 1 : Nat) : Int))), (19, .lf (.int .i64 ((A.length + A.length + g + X.length : Nat) : Int))), (18, .lf (.int .i64 ((A.length + g : Nat) : Int))), (4, .fn 75 []), (3, .lf (.int .i64 ((A.length + X.length + Y.length : Nat) : Int))), (2, .lf (.int .i64 ((A.length + X.length : Nat) : Int))), (1, .lf (.int .i64 (A.length : Int))), (1000000, .sl 0 none), (0, .sl 0 none)]
  obtain ⟨l, hL⟩ : ∃ l, l = A ++ (X ++ (Y ++ B)) := ⟨_, rfl⟩
  have lX : ∀ {i : Nat} {x : VX}, X[i]? = some x → l[A.length + i]? = some x := fun {i x} h => by
    have := (List.getElem?_eq_some_iff.1 h).1
    rw [hL, List.getElem?_append_right (by omega), Nat.add_sub_cancel_left, List.getElem?_append_left this]; exact h
  have lY : ∀ {i : Nat} {x : VX}, Y[i]? = some x → l[A.length + X.length + i]? = some x := fun {i x} h => by
    have := (List.getElem?_eq_some_iff.1 h).1
    rw [hL, List.getElem?_append_right (by omega), show A.length + X.length + i - A.length = X.length + i by omega, List.getElem?_append_right (by omega), Nat.add_sub_cancel_left, List.getElem?_append_left this]; exact h
  have hll : l.length ≤ 200 := by rw [hL]; exact hl
  conv => whnf
  let I4 : Nat → Sl → Hp → Prop := fun z s h => ∃ (lo hi u v : Nat), (lo ≤ hi ∧ hi ≤ g ∧ hi ≤ X.length ∧ g ≤ lo + Y.length ∧ (lo = 0 ∨ g = lo + Y.length) ∧ (hi = X.length ∨ hi = g)) ∧ lo ≤ u ∧ u ≤ v ∧ v ≤ hi ∧ (u = lo ∨ ∃ xx yy, X[u - 1]? = some xx ∧ Y[g - u]? = some yy ∧ ltU yy xx = false) ∧ (v = hi ∨ ∃ xx yy, X[v]? = some xx ∧ Y[g - v - 1]? = some yy ∧ ltU yy xx = true) ∧ z = v - u ∧ s = S4 u v ∧ h = H0 l
  refine (fun (key : ∀ (m : Nat) (s : Sl) (h : Hp), I4 m s h → (_ : Prop)) => by
    refine br2 (fun h3 => ?_) (fun h3 => ?_)
    · have hgx : g < X.length := by
        have h4 : ((A.length + X.length : Nat) : Int) > IntKind.i64.wrap ((IntKind.u64.wrap (IntKind.i64.wrap (((A.length : Nat) : Int) + ((A.length + X.length + Y.length : Nat) : Int)))).fdiv (2 ^ (min (1 : Int).toNat IntKind.u64.bits))) := of_decide_eq_true h3
        rw [hw] at h4; omega
      obtain ⟨lo, hlo⟩ : ∃ lo, lo = g - Y.length := ⟨_, rfl⟩
      obtain ⟨hi, hhi⟩ : ∃ hi, hi = g := ⟨_, rfl⟩
      have C : lo ≤ hi ∧ hi ≤ g ∧ hi ≤ X.length ∧ g ≤ lo + Y.length ∧ (lo = 0 ∨ g = lo + Y.length) ∧ (hi = X.length ∨ hi = g) := by omega
      have e21 : V.lf (.int .i64 (IntKind.i64.wrap ((IntKind.u64.wrap (IntKind.i64.wrap (((A.length : Nat) : Int) + ((A.length + X.length + Y.length : Nat) : Int)))).fdiv (2 ^ (min (1 : Int).toNat IntKind.u64.bits))))) = V.lf (.int .i64 ((A.length + hi : Nat) : Int)) := by rw [hw, hhi]
      have e20 : V.lf (.int .i64 (IntKind.i64.wrap (IntKind.i64.wrap (IntKind.i64.wrap ((IntKind.u64.wrap (IntKind.i64.wrap (((A.length : Nat) : Int) + ((A.length + X.length + Y.length : Nat) : Int)))).fdiv (2 ^ (min (1 : Int).toNat IntKind.u64.bits))) + ((A.length + X.length : Nat) : Int)) - ((A.length + X.length + Y.length : Nat) : Int)))) = V.lf (.int .i64 ((A.length + lo : Nat) : Int)) := by rw [wn, w64 (by omega) (by omega)]; congr 2; omega
      conv => whnf
      exact ⟨I4, hi - lo, [(0, 0)], S4 lo hi, H0 l, ⟨rfl, ⟨e21, e20, e22, e19, e18, rfl, rfl, rfl, rfl, rfl, rfl, trivial⟩, (by rw [hL]; rfl), trivial⟩, ⟨lo, hi, lo, hi, C, Nat.le_refl _, C.1, Nat.le_refl _, .inl rfl, .inl rfl, rfl, rfl, rfl⟩, key⟩
    · have hgx : X.length ≤ g := by
        have h4 : ¬ ((A.length + X.length : Nat) : Int) > IntKind.i64.wrap ((IntKind.u64.wrap (IntKind.i64.wrap (((A.length : Nat) : Int) + ((A.length + X.length + Y.length : Nat) : Int)))).fdiv (2 ^ (min (1 : Int).toNat IntKind.u64.bits))) := of_decide_eq_false h3
        rw [hw] at h4; omega
      obtain ⟨lo, hlo⟩ : ∃ lo, lo = 0 := ⟨_, rfl⟩
      obtain ⟨hi, hhi⟩ : ∃ hi, hi = X.length := ⟨_, rfl⟩
      have C : lo ≤ hi ∧ hi ≤ g ∧ hi ≤ X.length ∧ g ≤ lo + Y.length ∧ (lo = 0 ∨ g = lo + Y.length) ∧ (hi = X.length ∨ hi = g) := by omega
      have e21 : V.lf (.int .i64 ((A.length + X.length : Nat) : Int)) = V.lf (.int .i64 ((A.length + hi : Nat) : Int)) := by rw [hhi]
      have e20 : V.lf (.int .i64 (A.length : Int)) = V.lf (.int .i64 ((A.length + lo : Nat) : Int)) := by rw [hlo]; rfl
      conv => whnf
      exact ⟨I4, hi - lo, [(0, 0)], S4 lo hi, H0 l, ⟨rfl, ⟨e21, e20, e22, e19, e18, rfl, rfl, rfl, rfl, rfl, rfl, trivial⟩, (by rw [hL]; rfl), trivial⟩, ⟨lo, hi, lo, hi, C, Nat.le_refl _, C.1, Nat.le_refl _, .inl rfl, .inl rfl, rfl, rfl, rfl⟩, key⟩) ?_
  clear e22 e19 e18
  rintro z _ _ ⟨lo, hi, u, v, ⟨C1, C2, C3, C4, C5, C6⟩, f1, f2, f3, f4, f5, rfl, rfl, rfl⟩
  conv => whnf
  refine br2 (fun h4 => ?_) (fun h4 => ?_)
  · have huv : u < v := by have := of_decide_eq_true h4; omega
    have hw2 := half_eq (show (A.length + u) + (A.length + v) ≤ 4000000 by omega)
    obtain ⟨h, k3, k4, k5⟩ : ∃ h, ((A.length + u) + (A.length + v)) / 2 = A.length + h ∧ u ≤ h ∧ h < v := ⟨(u + v) / 2, by omega, by omega, by omega⟩
    rw [k3] at hw2
    obtain ⟨xx, hxx⟩ := getL (l := X) (j := h) (by omega)
    obtain ⟨yy, hyy⟩ := getL (l := Y) (j := g - h - 1) (by omega)
    have hxi := lX hxx
    have hyi := lY hyy
    have ei : IntKind.i64.wrap (((A.length + A.length + g + X.length - 1 : Nat) : Int) - IntKind.i64.wrap ((IntKind.u64.wrap (IntKind.i64.wrap (((A.length + u : Nat) : Int) + ((A.length + v : Nat) : Int)))).fdiv (2 ^ (min (1 : Int).toNat IntKind.u64.bits)))) = ((A.length + X.length + (g - h - 1) : Nat) : Int) := by rw [hw2, w64 (by omega) (by omega)]; omega
    have q1 : V.lf (.int .i64 (IntKind.i64.wrap (IntKind.i64.wrap ((IntKind.u64.wrap (IntKind.i64.wrap (((A.length + u : Nat) : Int) + ((A.length + v : Nat) : Int)))).fdiv (2 ^ (min (1 : Int).toNat IntKind.u64.bits))) + 1))) = V.lf (.int .i64 ((A.length + (h + 1) : Nat) : Int)) := by rw [hw2, w64 (by omega) (by omega)]; congr 2
    have q2 : V.lf (.int .i64 (IntKind.i64.wrap ((IntKind.u64.wrap (IntKind.i64.wrap (((A.length + u : Nat) : Int) + ((A.length + v : Nat) : Int)))).fdiv (2 ^ (min (1 : Int).toNat IntKind.u64.bits))))) = V.lf (.int .i64 ((A.length + h : Nat) : Int)) := by rw [hw2]
    conv => whnf
    refine ⟨(ixE ei hyi).1, (ixE ei hyi).2, ?_⟩
    conv => whnf
    refine ex2 _ (nthE ei hyi) ?_
    conv => whnf
    repeat (refine rc_i (by (conv => whnf); first | rfl | exact ⟨(ixE ei hyi).1, (ixE ei hyi).2, rfl⟩ | exact ex2 _ (nthE ei hyi) rfl | exact ⟨(ixE hw2 hxi).1, (ixE hw2 hxi).2, rfl⟩ | exact ex2 _ (nthE hw2 hxi) rfl) ?_; conv => whnf)
    refine ⟨(ixE hw2 hxi).1, (ixE hw2 hxi).2, ?_⟩
    conv => whnf
    refine ex2 _ (nthE hw2 hxi) ?_
    conv => whnf
    repeat (refine rc_i (by (conv => whnf); first | rfl | exact ⟨(ixE ei hyi).1, (ixE ei hyi).2, rfl⟩ | exact ex2 _ (nthE ei hyi) rfl | exact ⟨(ixE hw2 hxi).1, (ixE hw2 hxi).2, rfl⟩ | exact ex2 _ (nthE hw2 hxi) rfl) ?_; conv => whnf)
    refine ⟨(yy, xx), rfl, ?_⟩
    rintro _ _ ⟨rfl, n, rfl, hn⟩
    replace hn : n < 0 ↔ ltU yy xx = true := hn
    conv => whnf
    repeat (refine rc_i (by (conv => whnf); first | rfl | exact ⟨(ixE ei hyi).1, (ixE ei hyi).2, rfl⟩ | exact ex2 _ (nthE ei hyi) rfl | exact ⟨(ixE hw2 hxi).1, (ixE hw2 hxi).2, rfl⟩ | exact ex2 _ (nthE hw2 hxi) rfl) ?_; conv => whnf)
    refine br2 (fun h5 => ?_) (fun h5 => ?_)
    · have h6 : ltU yy xx = false := by
        replace h5 : (!decide (n < 0)) = true := h5
        rw [Bool.not_eq_true'] at h5
        cases e : ltU yy xx with
        | false => rfl
        | true => exact absurd (hn.2 e) (of_decide_eq_false h5)
      conv => whnf
      refine ⟨v - (h + 1), [(0, 0)], S4 (h + 1) v, H0 l, by omega, ⟨rfl, ⟨rfl, q1, rfl, rfl, rfl, rfl, rfl, rfl, rfl, rfl, rfl, trivial⟩, rfl, trivial⟩, lo, hi, h + 1, v, ⟨C1, C2, C3, C4, C5, C6⟩, by omega, by omega, f3, .inr ⟨xx, yy, hxx, ?_, h6⟩, f5, rfl, rfl, rfl⟩
      rw [show g - (h + 1) = g - h - 1 by omega]; exact hyy
    · have h6 : ltU yy xx = true := by
        replace h5 : (!decide (n < 0)) = false := h5
        rw [Bool.not_eq_false'] at h5
        exact hn.1 (of_decide_eq_true h5)
      conv => whnf
      exact ⟨h - u, [(0, 0)], S4 u h, H0 l, by omega, ⟨rfl, ⟨q2, rfl, rfl, rfl, rfl, rfl, rfl, rfl, rfl, rfl, rfl, trivial⟩, rfl, trivial⟩, lo, hi, u, h, ⟨C1, C2, C3, C4, C5, C6⟩, f1, k4, by omega, f4, .inr ⟨xx, yy, hxx, hyy, h6⟩, rfl, rfl, rfl⟩
  · have huv : u = v := by have := of_decide_eq_false h4; omega
    subst huv
    clear h4
    obtain ⟨j, hj⟩ : ∃ j, j = g - u := ⟨_, rfl⟩
    have hlX : (X.take u).length = u := by rw [List.length_take]; omega
    have hlY : (Y.take j).length = j := by rw [List.length_take]; omega
    have hlX2 : (X.drop u).length = X.length - u := by rw [List.length_drop]
    have hlY2 : (Y.drop j).length = Y.length - j := by rw [List.length_drop]
    have hX : X = X.take u ++ X.drop u := (List.take_append_drop u X).symm
    have hY : Y = Y.take j ++ Y.drop j := (List.take_append_drop j Y).symm
    have sX := sx
    have sY := sy
    rw [hX, sd_app] at sX
    rw [hY, sd_app] at sY
    have cut1 := cut_le ltU_swo (i := u) (j := j) sx sy (by omega) fun h0 x y hx hy => by
      rcases f4 with f4 | ⟨xx, yy, a1, a2, a3⟩
      · rcases C5 with C5 | C5
        · omega
        · have := (List.getElem?_eq_some_iff.1 hy).1; omega
      · rw [hx] at a1; cases a1
        rw [← hj, hy] at a2; cases a2
        exact a3
    have cut2 := cut_le ltU_swo (i := j) (j := u) sy sx (by omega) fun h0 y x hy hx => by
      rcases f5 with f5 | ⟨xx, yy, a1, a2, a3⟩
      · rcases C6 with C6 | C6
        · have := (List.getElem?_eq_some_iff.1 hx).1; omega
        · omega
      · rw [hx] at a1; cases a1
        rw [← hj, hy] at a2; cases a2
        exact ltU_swo.lt_le a3
    have fin : ∀ {Z1 Z2 : List VX}, Sd ltU Z1 → Z1.Perm (X.take u ++ Y.take j) → Sd ltU Z2 → Z2.Perm (X.drop u ++ Y.drop j) → ∃ Z, [[D.row 10 VX.ds ((A ++ Z1) ++ (Z2 ++ B))]] = [[D.row 10 VX.ds (A ++ (Z ++ B))]] ∧ Sd ltU Z ∧ Z.Perm (X ++ Y) := fun {Z1 Z2} z1 z2 z3 z4 => by
      obtain ⟨r1, r2⟩ := sym_cut ltU_swo (by rw [← hX]; exact sx) (by rw [← hY]; exact sy) cut1 cut2 z2 z1 z4 z3
      rw [← hX, ← hY] at r2
      exact ⟨Z1 ++ Z2, by simp, r1, r2⟩
    have hLs : l = (A ++ X.take u) ++ (X.drop u ++ (Y.take j ++ (Y.drop j ++ B))) := by
      rw [hL, List.append_assoc, ← List.append_assoc (X.take u), List.take_append_drop, ← List.append_assoc (Y.take j), List.take_append_drop]
    have w24 : Hid (IntKind.i64.wrap (((A.length + A.length + g + X.length : Nat) : Int) - ((A.length + u : Nat) : Int)) = ((A.length + X.length + j : Nat) : Int)) := by
      show IntKind.i64.wrap (((A.length + A.length + g + X.length : Nat) : Int) - ((A.length + u : Nat) : Int)) = ((A.length + X.length + j : Nat) : Int)
      rw [w64 (by omega) (by omega)]; omega
    clear hw wn w1 w2 hg1
    obtain ⟨R, hR⟩ : ∃ R, R = A ++ (X.take u ++ (Y.take j ++ (X.drop u ++ (Y.drop j ++ B)))) := ⟨_, rfl⟩
    have noR : u = X.length ∨ j = 0 → R.map VX.ds = l.map VX.ds := fun h => by
      rw [hR, hLs]
      rcases h with h | h
      · rw [h, List.drop_length]; simp
      · rw [h, List.take_zero]; simp
    -- the middle turned about
    have mid : ∀ (q : List VX), q.map VX.ds = R.map VX.ds → True := fun _ _ => trivial
    clear mid
    have eA : [D.lf (.int .i64 ((A.length + X.length - (X.length - u) : Nat) : Int))] = [D.lf (.int .i64 ((A.length + u : Nat) : Int))] := by congr 4; omega
    have eB : [D.lf (.int .i64 ((A.length + X.length + j : Nat) : Int))] = [D.lf (.int .i64 (IntKind.i64.wrap (((A.length + A.length + g + X.length : Nat) : Int) - ((A.length + u : Nat) : Int))))] := by rw [w24.out]
    have rot : ∀ q : List VX, q.length = l.length → (∀ k, q[k]? = l[rho (A.length + X.length - (X.length - u)) (A.length + X.length) (A.length + X.length + j) k]?) → u < X.length → q = R := fun q r1 r2 h0 => by
      rw [hR]
      have := rot_app (A := A ++ X.take u) (X := X.drop u) (Y := Y.take j) (B := Y.drop j ++ B) (l' := q) (by rw [r1, hLs]) (fun k => by
        rw [r2, hLs]
        congr 1
        have a1 : (A ++ X.take u).length = A.length + X.length - (X.length - u) := by rw [List.length_append, hlX]; omega
        have a2 : (A ++ X.take u).length + (X.drop u).length = A.length + X.length := by rw [List.length_append, hlX, hlX2]; omega
        rw [a2, a1, hlY])
      rw [this]; simp
    have eX : [D.lf (.int .i64 ((A.length + (X.take u).length : Nat) : Int))] = [D.lf (.int .i64 ((A.length + u : Nat) : Int))] := by rw [hlX]
    have eY : [D.lf (.int .i64 ((A.length + (X.take u).length + (Y.take j).length : Nat) : Int))] = [D.lf (.int .i64 ((A.length + g : Nat) : Int))] := by rw [hlX, hlY]; congr 4; omega
    have lenR : (A ++ (X.take u ++ (Y.take j ++ (X.drop u ++ (Y.drop j ++ B))))).length ≤ 200 := by simp only [List.length_append, hlX, hlY, hlX2, hlY2]; omega
    have neX : 0 < u → X.take u ≠ [] := fun h e => by rw [e] at hlX; simp at hlX; omega
    have neY : 0 < j → Y.take j ≠ [] := fun h e => by rw [e] at hlY; simp at hlY; omega
    have neX2 : u < X.length → X.drop u ≠ [] := fun h e => by rw [e] at hlX2; simp at hlX2; omega
    have neY2 : j < Y.length → Y.drop j ≠ [] := fun h e => by rw [e] at hlY2; simp at hlY2; omega
    have one1 : u = 0 ∨ j = 0 → Sd ltU (X.take u ++ Y.take j) := fun h => by
      rcases h with h | h
      · rw [h, List.take_zero, List.nil_append]; exact sY.1
      · rw [h, List.take_zero, List.append_nil]; exact sX.1
    have one2 : u = X.length ∨ j = Y.length → Sd ltU (X.drop u ++ Y.drop j) := fun h => by
      rcases h with h | h
      · rw [h, List.drop_length, List.nil_append]; exact sY.2.1
      · rw [h, List.drop_length, List.append_nil]; exact sX.2.1
    clear cut1 cut2 f4 f5
    conv => whnf
    refine br2 (fun h5 => ?_) (fun h5 => ?_)
    · have h5' : u < X.length := by have := of_decide_eq_true h5; omega
      conv => whnf
      refine br2 (fun h6 => ?_) (fun h6 => ?_)
      · have h6' : 0 < j := by
          have h7 : ((A.length + X.length : Nat) : Int) < IntKind.i64.wrap (((A.length + A.length + g + X.length : Nat) : Int) - ((A.length + u : Nat) : Int)) := of_decide_eq_true h6
          rw [w24.out] at h7; omega
        conv => whnf
        refine ⟨⟨l, A.length + X.length, X.length - u, j, ⟨by omega, by omega⟩, h6', by rw [hL, hlen]; omega, hll⟩, by rw [← eA, ← eB]; rfl, ?_⟩
        rintro _ _ ⟨rfl, q, rfl, r1, r2⟩
        obtain rfl := rot q r1 r2 h5'
        conv => whnf
        refine ⟨[.enc 0], ?_⟩
        conv => whnf
        refine ⟨VX, VX.ds, A ++ (X.take u ++ (Y.take j ++ (X.drop u ++ (Y.drop j ++ B)))), fun _ => rfl, by rw [← hR], ?_⟩
        conv => whnf
        refine br2 (fun h7 => ?_) (fun h7 => ?_)
        · have h7' : 0 < u := by have := of_decide_eq_true h7; omega
          conv => whnf
          refine br2 (fun h8 => ?_) (fun h8 => ?_)
          · have h8' : 0 < j := by have := of_decide_eq_true h8; omega
            conv => whnf
            refine ⟨⟨⟨A, X.take u, Y.take j, X.drop u ++ (Y.drop j ++ B), neX h7', neY h8', sX.1, sY.1, lenR⟩, (show (X.take u).length + (Y.take j).length < X.length + Y.length by rw [hlX, hlY]; omega)⟩, by rw [← eX, ← eY]; rfl, ?_⟩
            rintro _ _ ⟨rfl, Z1, rfl, z1, z2⟩
            replace z2 : Z1.Perm (X.take u ++ Y.take j) := z2
            have zl := z2.length_eq
            rw [List.length_append, hlX, hlY] at zl
            conv => whnf
            refine ⟨[.enc 0], ?_⟩
            conv => whnf
            refine ⟨VX, VX.ds, (A ++ Z1) ++ (X.drop u ++ (Y.drop j ++ B)), fun _ => rfl, by rw [List.append_assoc], ?_⟩
            have eZ : [D.lf (.int .i64 ((((A ++ Z1).length : Nat)) : Int))] = [D.lf (.int .i64 ((A.length + g : Nat) : Int))] := by rw [List.length_append, zl]; congr 4; omega
            have eZ2 : [D.lf (.int .i64 (((A ++ Z1).length + (X.drop u).length : Nat) : Int))] = [D.lf (.int .i64 (IntKind.i64.wrap (((A.length + A.length + g + X.length : Nat) : Int) - ((A.length + u : Nat) : Int))))] := by rw [w24.out, List.length_append, zl, hlX2]; congr 4; omega
            have eZ3 : [D.lf (.int .i64 (((A ++ Z1).length + (X.drop u).length + (Y.drop j).length : Nat) : Int))] = [D.lf (.int .i64 ((A.length + X.length + Y.length : Nat) : Int))] := by rw [List.length_append, zl, hlX2, hlY2]; congr 4; omega
            have lenZ : ((A ++ Z1) ++ (X.drop u ++ (Y.drop j ++ B))).length ≤ 200 := by simp only [List.length_append, zl, hlX2, hlY2]; omega
            have last : (u = X.length ∨ j = Y.length) → ∃ Z, [[D.row 10 VX.ds ((A ++ Z1) ++ (X.drop u ++ (Y.drop j ++ B)))]] = [[D.row 10 VX.ds (A ++ (Z ++ B))]] ∧ Sd ltU Z ∧ Z.Perm (X ++ Y) := fun h => by
              have := fin z1 z2 (one2 h) (List.Perm.refl _)
              rwa [List.append_assoc (X.drop u)] at this
            conv => whnf
            refine br2 (fun h9 => ?_) (fun h9 => ?_)
            · have h9' : u < X.length := by
                have h10 : ((A.length + g : Nat) : Int) < IntKind.i64.wrap (((A.length + A.length + g + X.length : Nat) : Int) - ((A.length + u : Nat) : Int)) := of_decide_eq_true h9
                rw [w24.out] at h10; omega
              conv => whnf
              refine br2 (fun h10 => ?_) (fun h10 => ?_)
              · have h10' : j < Y.length := by
                  have h11 : IntKind.i64.wrap (((A.length + A.length + g + X.length : Nat) : Int) - ((A.length + u : Nat) : Int)) < ((A.length + X.length + Y.length : Nat) : Int) := of_decide_eq_true h10
                  rw [w24.out] at h11; omega
                conv => whnf
                refine ⟨⟨⟨A ++ Z1, X.drop u, Y.drop j, B, neX2 h9', neY2 h10', sX.2.1, sY.2.1, lenZ⟩, (show (X.drop u).length + (Y.drop j).length < X.length + Y.length by rw [hlX2, hlY2]; omega)⟩, by rw [← eZ, ← eZ2, ← eZ3]; rfl, ?_⟩
                rintro _ _ ⟨rfl, Z2, rfl, z3, z4⟩
                conv => whnf
                exact ⟨⟨rfl, fin z1 z2 z3 z4⟩⟩
              · have h10' : j = Y.length := by
                  have h11 : ¬ IntKind.i64.wrap (((A.length + A.length + g + X.length : Nat) : Int) - ((A.length + u : Nat) : Int)) < ((A.length + X.length + Y.length : Nat) : Int) := of_decide_eq_false h10
                  rw [w24.out] at h11; omega
                conv => whnf
                exact ⟨⟨rfl, last (.inr h10')⟩⟩
            · have h9' : u = X.length := by
                have h10 : ¬ ((A.length + g : Nat) : Int) < IntKind.i64.wrap (((A.length + A.length + g + X.length : Nat) : Int) - ((A.length + u : Nat) : Int)) := of_decide_eq_false h9
                rw [w24.out] at h10; omega
              omega
          · have h8' : j = 0 := by have := of_decide_eq_false h8; omega
            omega
        · have h7' : u = 0 := by have := of_decide_eq_false h7; omega
          obtain ⟨Z1, hZ1⟩ : ∃ Z1, Z1 = X.take u ++ Y.take j := ⟨_, rfl⟩
          have z1 : Sd ltU Z1 := by rw [hZ1]; exact one1 (.inl h7')
          have z2 : Z1.Perm (X.take u ++ Y.take j) := by rw [hZ1]
          have zl := z2.length_eq
          rw [List.length_append, hlX, hlY] at zl
          conv => whnf
          refine ⟨[.enc 0], ?_⟩
          conv => whnf
          refine ⟨VX, VX.ds, (A ++ Z1) ++ (X.drop u ++ (Y.drop j ++ B)), fun _ => rfl, by rw [hZ1]; simp, ?_⟩
          have eZ : [D.lf (.int .i64 ((((A ++ Z1).length : Nat)) : Int))] = [D.lf (.int .i64 ((A.length + g : Nat) : Int))] := by rw [List.length_append, zl]; congr 4; omega
          have eZ2 : [D.lf (.int .i64 (((A ++ Z1).length + (X.drop u).length : Nat) : Int))] = [D.lf (.int .i64 (IntKind.i64.wrap (((A.length + A.length + g + X.length : Nat) : Int) - ((A.length + u : Nat) : Int))))] := by rw [w24.out, List.length_append, zl, hlX2]; congr 4; omega
          have eZ3 : [D.lf (.int .i64 (((A ++ Z1).length + (X.drop u).length + (Y.drop j).length : Nat) : Int))] = [D.lf (.int .i64 ((A.length + X.length + Y.length : Nat) : Int))] := by rw [List.length_append, zl, hlX2, hlY2]; congr 4; omega
          have lenZ : ((A ++ Z1) ++ (X.drop u ++ (Y.drop j ++ B))).length ≤ 200 := by simp only [List.length_append, zl, hlX2, hlY2]; omega
          have last : (u = X.length ∨ j = Y.length) → ∃ Z, [[D.row 10 VX.ds ((A ++ Z1) ++ (X.drop u ++ (Y.drop j ++ B)))]] = [[D.row 10 VX.ds (A ++ (Z ++ B))]] ∧ Sd ltU Z ∧ Z.Perm (X ++ Y) := fun h => by
            have := fin z1 z2 (one2 h) (List.Perm.refl _)
            rwa [List.append_assoc (X.drop u)] at this
          conv => whnf
          refine br2 (fun h9 => ?_) (fun h9 => ?_)
          · have h9' : u < X.length := by
              have h10 : ((A.length + g : Nat) : Int) < IntKind.i64.wrap (((A.length + A.length + g + X.length : Nat) : Int) - ((A.length + u : Nat) : Int)) := of_decide_eq_true h9
              rw [w24.out] at h10; omega
            conv => whnf
            refine br2 (fun h10 => ?_) (fun h10 => ?_)
            · have h10' : j < Y.length := by
                have h11 : IntKind.i64.wrap (((A.length + A.length + g + X.length : Nat) : Int) - ((A.length + u : Nat) : Int)) < ((A.length + X.length + Y.length : Nat) : Int) := of_decide_eq_true h10
                rw [w24.out] at h11; omega
              conv => whnf
              refine ⟨⟨⟨A ++ Z1, X.drop u, Y.drop j, B, neX2 h9', neY2 h10', sX.2.1, sY.2.1, lenZ⟩, (show (X.drop u).length + (Y.drop j).length < X.length + Y.length by rw [hlX2, hlY2]; omega)⟩, by rw [← eZ, ← eZ2, ← eZ3]; rfl, ?_⟩
              rintro _ _ ⟨rfl, Z2, rfl, z3, z4⟩
              conv => whnf
              exact ⟨⟨rfl, fin z1 z2 z3 z4⟩⟩
            · have h10' : j = Y.length := by
                have h11 : ¬ IntKind.i64.wrap (((A.length + A.length + g + X.length : Nat) : Int) - ((A.length + u : Nat) : Int)) < ((A.length + X.length + Y.length : Nat) : Int) := of_decide_eq_false h10
                rw [w24.out] at h11; omega
              conv => whnf
              exact ⟨⟨rfl, last (.inr h10')⟩⟩
          · have h9' : u = X.length := by
              have h10 : ¬ ((A.length + g : Nat) : Int) < IntKind.i64.wrap (((A.length + A.length + g + X.length : Nat) : Int) - ((A.length + u : Nat) : Int)) := of_decide_eq_false h9
              rw [w24.out] at h10; omega
            omega
      · have h6' : j = 0 := by
          have h7 : ¬ ((A.length + X.length : Nat) : Int) < IntKind.i64.wrap (((A.length + A.length + g + X.length : Nat) : Int) - ((A.length + u : Nat) : Int)) := of_decide_eq_false h6
          rw [w24.out] at h7; omega
        conv => whnf
        refine ⟨[.enc 0], ?_⟩
        conv => whnf
        refine ⟨VX, VX.ds, A ++ (X.take u ++ (Y.take j ++ (X.drop u ++ (Y.drop j ++ B)))), fun _ => rfl, by rw [← hR]; exact noR (.inr h6'), ?_⟩
        conv => whnf
        refine br2 (fun h7 => ?_) (fun h7 => ?_)
        · have h7' : 0 < u := by have := of_decide_eq_true h7; omega
          conv => whnf
          refine br2 (fun h8 => ?_) (fun h8 => ?_)
          · have h8' : 0 < j := by have := of_decide_eq_true h8; omega
            omega
          · have h8' : j = 0 := by have := of_decide_eq_false h8; omega
            obtain ⟨Z1, hZ1⟩ : ∃ Z1, Z1 = X.take u ++ Y.take j := ⟨_, rfl⟩
            have z1 : Sd ltU Z1 := by rw [hZ1]; exact one1 (.inr h8')
            have z2 : Z1.Perm (X.take u ++ Y.take j) := by rw [hZ1]
            have zl := z2.length_eq
            rw [List.length_append, hlX, hlY] at zl
            conv => whnf
            refine ⟨[.enc 0], ?_⟩
            conv => whnf
            refine ⟨VX, VX.ds, (A ++ Z1) ++ (X.drop u ++ (Y.drop j ++ B)), fun _ => rfl, by rw [hZ1]; simp, ?_⟩
            have eZ : [D.lf (.int .i64 ((((A ++ Z1).length : Nat)) : Int))] = [D.lf (.int .i64 ((A.length + g : Nat) : Int))] := by rw [List.length_append, zl]; congr 4; omega
            have eZ2 : [D.lf (.int .i64 (((A ++ Z1).length + (X.drop u).length : Nat) : Int))] = [D.lf (.int .i64 (IntKind.i64.wrap (((A.length + A.length + g + X.length : Nat) : Int) - ((A.length + u : Nat) : Int))))] := by rw [w24.out, List.length_append, zl, hlX2]; congr 4; omega
            have eZ3 : [D.lf (.int .i64 (((A ++ Z1).length + (X.drop u).length + (Y.drop j).length : Nat) : Int))] = [D.lf (.int .i64 ((A.length + X.length + Y.length : Nat) : Int))] := by rw [List.length_append, zl, hlX2, hlY2]; congr 4; omega
            have lenZ : ((A ++ Z1) ++ (X.drop u ++ (Y.drop j ++ B))).length ≤ 200 := by simp only [List.length_append, zl, hlX2, hlY2]; omega
            have last : (u = X.length ∨ j = Y.length) → ∃ Z, [[D.row 10 VX.ds ((A ++ Z1) ++ (X.drop u ++ (Y.drop j ++ B)))]] = [[D.row 10 VX.ds (A ++ (Z ++ B))]] ∧ Sd ltU Z ∧ Z.Perm (X ++ Y) := fun h => by
              have := fin z1 z2 (one2 h) (List.Perm.refl _)
              rwa [List.append_assoc (X.drop u)] at this
            conv => whnf
            refine br2 (fun h9 => ?_) (fun h9 => ?_)
            · have h9' : u < X.length := by
                have h10 : ((A.length + g : Nat) : Int) < IntKind.i64.wrap (((A.length + A.length + g + X.length : Nat) : Int) - ((A.length + u : Nat) : Int)) := of_decide_eq_true h9
                rw [w24.out] at h10; omega
              conv => whnf
              refine br2 (fun h10 => ?_) (fun h10 => ?_)
              · have h10' : j < Y.length := by
                  have h11 : IntKind.i64.wrap (((A.length + A.length + g + X.length : Nat) : Int) - ((A.length + u : Nat) : Int)) < ((A.length + X.length + Y.length : Nat) : Int) := of_decide_eq_true h10
                  rw [w24.out] at h11; omega
                conv => whnf
                refine ⟨⟨⟨A ++ Z1, X.drop u, Y.drop j, B, neX2 h9', neY2 h10', sX.2.1, sY.2.1, lenZ⟩, (show (X.drop u).length + (Y.drop j).length < X.length + Y.length by rw [hlX2, hlY2]; omega)⟩, by rw [← eZ, ← eZ2, ← eZ3]; rfl, ?_⟩
                rintro _ _ ⟨rfl, Z2, rfl, z3, z4⟩
                conv => whnf
                exact ⟨⟨rfl, fin z1 z2 z3 z4⟩⟩
              · have h10' : j = Y.length := by
                  have h11 : ¬ IntKind.i64.wrap (((A.length + A.length + g + X.length : Nat) : Int) - ((A.length + u : Nat) : Int)) < ((A.length + X.length + Y.length : Nat) : Int) := of_decide_eq_false h10
                  rw [w24.out] at h11; omega
                omega
            · have h9' : u = X.length := by
                have h10 : ¬ ((A.length + g : Nat) : Int) < IntKind.i64.wrap (((A.length + A.length + g + X.length : Nat) : Int) - ((A.length + u : Nat) : Int)) := of_decide_eq_false h9
                rw [w24.out] at h10; omega
              omega
        · have h7' : u = 0 := by have := of_decide_eq_false h7; omega
          obtain ⟨Z1, hZ1⟩ : ∃ Z1, Z1 = X.take u ++ Y.take j := ⟨_, rfl⟩
          have z1 : Sd ltU Z1 := by rw [hZ1]; exact one1 (.inl h7')
          have z2 : Z1.Perm (X.take u ++ Y.take j) := by rw [hZ1]
          have zl := z2.length_eq
          rw [List.length_append, hlX, hlY] at zl
          conv => whnf
          refine ⟨[.enc 0], ?_⟩
          conv => whnf
          refine ⟨VX, VX.ds, (A ++ Z1) ++ (X.drop u ++ (Y.drop j ++ B)), fun _ => rfl, by rw [hZ1]; simp, ?_⟩
          have eZ : [D.lf (.int .i64 ((((A ++ Z1).length : Nat)) : Int))] = [D.lf (.int .i64 ((A.length + g : Nat) : Int))] := by rw [List.length_append, zl]; congr 4; omega
          have eZ2 : [D.lf (.int .i64 (((A ++ Z1).length + (X.drop u).length : Nat) : Int))] = [D.lf (.int .i64 (IntKind.i64.wrap (((A.length + A.length + g + X.length : Nat) : Int) - ((A.length + u : Nat) : Int))))] := by rw [w24.out, List.length_append, zl, hlX2]; congr 4; omega
          have eZ3 : [D.lf (.int .i64 (((A ++ Z1).length + (X.drop u).length + (Y.drop j).length : Nat) : Int))] = [D.lf (.int .i64 ((A.length + X.length + Y.length : Nat) : Int))] := by rw [List.length_append, zl, hlX2, hlY2]; congr 4; omega
          have lenZ : ((A ++ Z1) ++ (X.drop u ++ (Y.drop j ++ B))).length ≤ 200 := by simp only [List.length_append, zl, hlX2, hlY2]; omega
          have last : (u = X.length ∨ j = Y.length) → ∃ Z, [[D.row 10 VX.ds ((A ++ Z1) ++ (X.drop u ++ (Y.drop j ++ B)))]] = [[D.row 10 VX.ds (A ++ (Z ++ B))]] ∧ Sd ltU Z ∧ Z.Perm (X ++ Y) := fun h => by
            have := fin z1 z2 (one2 h) (List.Perm.refl _)
            rwa [List.append_assoc (X.drop u)] at this
          conv => whnf
          refine br2 (fun h9 => ?_) (fun h9 => ?_)
          · have h9' : u < X.length := by
              have h10 : ((A.length + g : Nat) : Int) < IntKind.i64.wrap (((A.length + A.length + g + X.length : Nat) : Int) - ((A.length + u : Nat) : Int)) := of_decide_eq_true h9
              rw [w24.out] at h10; omega
            conv => whnf
            refine br2 (fun h10 => ?_) (fun h10 => ?_)
            · have h10' : j < Y.length := by
                have h11 : IntKind.i64.wrap (((A.length + A.length + g + X.length : Nat) : Int) - ((A.length + u : Nat) : Int)) < ((A.length + X.length + Y.length : Nat) : Int) := of_decide_eq_true h10
                rw [w24.out] at h11; omega
              conv => whnf
              refine ⟨⟨⟨A ++ Z1, X.drop u, Y.drop j, B, neX2 h9', neY2 h10', sX.2.1, sY.2.1, lenZ⟩, (show (X.drop u).length + (Y.drop j).length < X.length + Y.length by rw [hlX2, hlY2]; omega)⟩, by rw [← eZ, ← eZ2, ← eZ3]; rfl, ?_⟩
              rintro _ _ ⟨rfl, Z2, rfl, z3, z4⟩
              conv => whnf
              exact ⟨⟨rfl, fin z1 z2 z3 z4⟩⟩
            · have h10' : j = Y.length := by
                have h11 : ¬ IntKind.i64.wrap (((A.length + A.length + g + X.length : Nat) : Int) - ((A.length + u : Nat) : Int)) < ((A.length + X.length + Y.length : Nat) : Int) := of_decide_eq_false h10
                rw [w24.out] at h11; omega
              omega
          · have h9' : u = X.length := by
              have h10 : ¬ ((A.length + g : Nat) : Int) < IntKind.i64.wrap (((A.length + A.length + g + X.length : Nat) : Int) - ((A.length + u : Nat) : Int)) := of_decide_eq_false h9
              rw [w24.out] at h10; omega
            omega
    · have h5' : u = X.length := by have := of_decide_eq_false h5; omega
      conv => whnf
      refine ⟨[.enc 0], ?_⟩
      conv => whnf
      refine ⟨VX, VX.ds, A ++ (X.take u ++ (Y.take j ++ (X.drop u ++ (Y.drop j ++ B)))), fun _ => rfl, by rw [← hR]; exact noR (.inl h5'), ?_⟩
      conv => whnf
      refine br2 (fun h7 => ?_) (fun h7 => ?_)
      · have h7' : 0 < u := by have := of_decide_eq_true h7; omega
        conv => whnf
        refine br2 (fun h8 => ?_) (fun h8 => ?_)
        · have h8' : 0 < j := by have := of_decide_eq_true h8; omega
          conv => whnf
          refine ⟨⟨⟨A, X.take u, Y.take j, X.drop u ++ (Y.drop j ++ B), neX h7', neY h8', sX.1, sY.1, lenR⟩, (show (X.take u).length + (Y.take j).length < X.length + Y.length by rw [hlX, hlY]; omega)⟩, by rw [← eX, ← eY]; rfl, ?_⟩
          rintro _ _ ⟨rfl, Z1, rfl, z1, z2⟩
          replace z2 : Z1.Perm (X.take u ++ Y.take j) := z2
          have zl := z2.length_eq
          rw [List.length_append, hlX, hlY] at zl
          conv => whnf
          refine ⟨[.enc 0], ?_⟩
          conv => whnf
          refine ⟨VX, VX.ds, (A ++ Z1) ++ (X.drop u ++ (Y.drop j ++ B)), fun _ => rfl, by rw [List.append_assoc], ?_⟩
          have eZ : [D.lf (.int .i64 ((((A ++ Z1).length : Nat)) : Int))] = [D.lf (.int .i64 ((A.length + g : Nat) : Int))] := by rw [List.length_append, zl]; congr 4; omega
          have last : (u = X.length ∨ j = Y.length) → ∃ Z, [[D.row 10 VX.ds ((A ++ Z1) ++ (X.drop u ++ (Y.drop j ++ B)))]] = [[D.row 10 VX.ds (A ++ (Z ++ B))]] ∧ Sd ltU Z ∧ Z.Perm (X ++ Y) := fun h => by
            have := fin z1 z2 (one2 h) (List.Perm.refl _)
            rwa [List.append_assoc (X.drop u)] at this
          conv => whnf
          refine br2 (fun h9 => ?_) (fun h9 => ?_)
          · have h9' : u < X.length := by
              have h10 : ((A.length + g : Nat) : Int) < IntKind.i64.wrap (((A.length + A.length + g + X.length : Nat) : Int) - ((A.length + u : Nat) : Int)) := of_decide_eq_true h9
              rw [w24.out] at h10; omega
            omega
          · have h9' : u = X.length := by
              have h10 : ¬ ((A.length + g : Nat) : Int) < IntKind.i64.wrap (((A.length + A.length + g + X.length : Nat) : Int) - ((A.length + u : Nat) : Int)) := of_decide_eq_false h9
              rw [w24.out] at h10; omega
            conv => whnf
            exact ⟨⟨rfl, last (.inl h9')⟩⟩
        · have h8' : j = 0 := by have := of_decide_eq_false h8; omega
          obtain ⟨Z1, hZ1⟩ : ∃ Z1, Z1 = X.take u ++ Y.take j := ⟨_, rfl⟩
          have z1 : Sd ltU Z1 := by rw [hZ1]; exact one1 (.inr h8')
          have z2 : Z1.Perm (X.take u ++ Y.take j) := by rw [hZ1]
          have zl := z2.length_eq
          rw [List.length_append, hlX, hlY] at zl
          conv => whnf
          refine ⟨[.enc 0], ?_⟩
          conv => whnf
          refine ⟨VX, VX.ds, (A ++ Z1) ++ (X.drop u ++ (Y.drop j ++ B)), fun _ => rfl, by rw [hZ1]; simp, ?_⟩
          have eZ : [D.lf (.int .i64 ((((A ++ Z1).length : Nat)) : Int))] = [D.lf (.int .i64 ((A.length + g : Nat) : Int))] := by rw [List.length_append, zl]; congr 4; omega
          have last : (u = X.length ∨ j = Y.length) → ∃ Z, [[D.row 10 VX.ds ((A ++ Z1) ++ (X.drop u ++ (Y.drop j ++ B)))]] = [[D.row 10 VX.ds (A ++ (Z ++ B))]] ∧ Sd ltU Z ∧ Z.Perm (X ++ Y) := fun h => by
            have := fin z1 z2 (one2 h) (List.Perm.refl _)
            rwa [List.append_assoc (X.drop u)] at this
          conv => whnf
          refine br2 (fun h9 => ?_) (fun h9 => ?_)
          · have h9' : u < X.length := by
              have h10 : ((A.length + g : Nat) : Int) < IntKind.i64.wrap (((A.length + A.length + g + X.length : Nat) : Int) - ((A.length + u : Nat) : Int)) := of_decide_eq_true h9
              rw [w24.out] at h10; omega
            omega
          · have h9' : u = X.length := by
              have h10 : ¬ ((A.length + g : Nat) : Int) < IntKind.i64.wrap (((A.length + A.length + g + X.length : Nat) : Int) - ((A.length + u : Nat) : Int)) := of_decide_eq_false h9
              rw [w24.out] at h10; omega
            conv => whnf
            exact ⟨⟨rfl, last (.inl h9')⟩⟩
      · have h7' : u = 0 := by have := of_decide_eq_false h7; omega
        omega
theorem symU_ok : FnOk Tryz.prog 173 cSym := fn_rec (fun a => a.X.length + a.Y.length) fun n hs x hx => fnX_at tab_ok (SOk.cons hs (SOk.cons gh_ok (SOk.cons gh_ok (SOk.cons cmpU_ok (SOk.cons rotU_ok SOk.nil))))) mixed (fn := Tryz.f173) (code := body Tryz.f173) ⟨Tryz.func173, rfl, by kernel_rfl, by kernel_rfl, by kernel_rfl, by kernel_rfl⟩ (ev_symU n x hx)
end Go.Vm
namespace Go.Vm
open Go.Proofs
set_option maxRecDepth 100000
set_option linter.unusedVariables false
set_option linter.unusedSimpArgs false
set_option maxHeartbeats 4000000

/-- Sorted rows of one length, but for the last, which may be shorter. -/
def Runs (w : Nat) : List (List VX) → Prop
  | [] => True
  | [r] => Sd ltU r ∧ 0 < r.length ∧ r.length ≤ w
  | r :: r2 :: rs => Sd ltU r ∧ r.length = w ∧ Runs w (r2 :: rs)
theorem runs_app {w : Nat} (hw : 0 < w) : ∀ {D T : List (List VX)}, (∀ r ∈ D, Sd ltU r ∧ r.length = w) → Runs w T → Runs w (D ++ T)
  | [], T, _, h => h
  | [d], [], hd, _ => by
    obtain ⟨a, b⟩ := hd d (by simp)
    exact ⟨a, by omega, by omega⟩
  | [d], t :: T, hd, h => by
    obtain ⟨a, b⟩ := hd d (by simp)
    exact ⟨a, b, h⟩
  | d :: d2 :: D, T, hd, h => by
    obtain ⟨a, b⟩ := hd d (by simp)
    exact ⟨a, b, runs_app hw (D := d2 :: D) (fun r hr => hd r (by simp [hr])) h⟩
theorem runs_one {w : Nat} {R : List (List VX)} (h : Runs w R) (hl : R.flatten.length ≤ w) (hw : 0 < w) : Sd ltU R.flatten := by
  match R, h with
  | [], _ => exact List.Pairwise.nil
  | [r], h => rw [List.flatten_cons, List.flatten_nil, List.append_nil]; exact h.1
  | r :: r2 :: rs, h =>
    exfalso
    have h1 := h.2.1
    have h2 : 0 < r2.length := by
      match rs, h.2.2 with
      | [], h => exact h.2.1
      | _ :: _, h => have := h.2.1; omega
    simp only [List.flatten_cons, List.length_append] at hl
    omega
/-- What stands at the head where there is enough for two. -/
theorem runs_two {w : Nat} {R : List (List VX)} (h : Runs w R) (hl : w < R.flatten.length) : ∃ r r2 rs, R = r :: r2 :: rs ∧ Sd ltU r ∧ r.length = w ∧ Sd ltU r2 ∧ 0 < r2.length ∧ r2.length ≤ w ∧ Runs w (r2 :: rs) ∧ (rs ≠ [] → r2.length = w) ∧ Runs w rs := by
  match R, h with
  | [], _ => simp at hl
  | [r], h => have := h.2.2; simp at hl; omega
  | r :: r2 :: rs, h =>
    refine ⟨r, r2, rs, rfl, h.1, h.2.1, ?_⟩
    match rs, h.2.2 with
    | [], h' => exact ⟨h'.1, h'.2.1, h'.2.2, h', fun e => absurd rfl e, trivial⟩
    | r3 :: rs, h' =>
      have h1 := h'.2.1
      refine ⟨h'.1, ?_, by omega, h', fun _ => h1, h'.2.2⟩
      match rs, h'.2.2 with
      | [], h2 => have := h2.2.1; have := h2.2.2; omega
      | _ :: _, h2 =>
        have h3 := h2.2.1
        rcases Nat.eq_zero_or_pos w with h4 | h4
        · exfalso
          have : ∀ {rs : List (List VX)} {r : List VX}, Runs 0 (r :: rs) → rs = [] → False := fun {rs r} hr e => by subst e; have := hr.2.1; have := hr.2.2; omega
          have gen : ∀ (rs : List (List VX)) (r : List VX), Runs 0 (r :: rs) → False := by
            intro rs
            induction rs with
            | nil => intro r hr; exact this hr rfl
            | cons a rs ih => intro r hr; exact ih a hr.2.2
          rw [h4] at h2
          exact gen _ _ h2
        · omega
structure StbX where
  l : List VX
  hl : l.length ≤ 200
def cStb : Con := { X := StbX, params := [(.mut, false), (.rd, false), (.rd, false)], res := [], resOwn := true, ins := fun x => [[.row 10 VX.ds x.l], [.lf (.int .i64 x.l.length)], [cmpD]], post := fun x outs r => r = [] ∧ ∃ Z, outs = [[.row 10 VX.ds Z]] ∧ Sd ltU Z ∧ Z.Perm x.l }
theorem ev_stbU : ∀ x, evFnX tab [(172, cInsS), (173, cSym)] cStb Tryz.f127 (body Tryz.f127) x := by
  rintro ⟨l, hl⟩
  replace hl : l.length ≤ 200 := hl
  conv => whnf
  let H0 : List VX → Hp := fun q => [(0, some (.row .own 10 VX.ds q))]
  let S0 : Nat → Sl := fun a => [(8, .lf (.int .i64 ((a + 20 : Nat) : Int))), (7, .lf (.int .i64 (a : Int))), (6, .lf (.int .i64 20)), (2, .fn 75 []), (1, .lf (.int .i64 (l.length : Int))), (1000000, .sl 0 none), (0, .sl 0 none)]
  refine ⟨fun z s h => ∃ (D : List (List VX)) (T : List VX), (∀ r ∈ D, Sd ltU r ∧ r.length = 20) ∧ (D.flatten ++ T).Perm l ∧ z = l.length - D.flatten.length ∧ s = S0 D.flatten.length ∧ h = H0 (D.flatten ++ T), l.length, [(0, 0)], S0 0, H0 l, ⟨rfl, ⟨rfl, rfl, rfl, rfl, rfl, rfl, rfl, trivial⟩, rfl, trivial⟩, ⟨[], l, by simp, List.Perm.refl _, rfl, rfl, rfl⟩, ?_⟩
  rintro z _ _ ⟨D, T, g1, g2, rfl, rfl, rfl⟩
  have hlen := g2.length_eq
  rw [List.length_append] at hlen
  obtain ⟨a, ha⟩ : ∃ a, a = D.flatten.length := ⟨_, rfl⟩
  rw [← ha] at hlen ⊢
  have tk : ∀ k, (D.flatten ++ T).take a = D.flatten ∧ (D.flatten ++ T).drop (a + k) = T.drop k := fun k => by
    rw [ha]; exact ⟨List.take_left, by rw [List.drop_append, List.drop_eq_nil_of_le (by omega), Nat.add_sub_cancel_left, List.nil_append]⟩
  have dr : (D.flatten ++ T).drop a = T := by rw [ha]; exact List.drop_left
  conv => whnf
  refine br2 (fun h1 => ?_) (fun h1 => ?_)
  · have h1' : a + 20 ≤ l.length := by have := of_decide_eq_true h1; omega
    conv => whnf
    refine ⟨⟨D.flatten ++ T, a, a + 20, ⟨by omega, by rw [List.length_append]; omega⟩, by rw [List.length_append]; omega⟩, rfl, ?_⟩
    rintro _ _ ⟨rfl, Z, rfl, z1, z2⟩
    replace z2 : Z.Perm (((D.flatten ++ T).drop a).take (a + 20 - a)) := z2
    rw [dr, show a + 20 - a = 20 by omega] at z2
    have zl := z2.length_eq
    rw [List.length_take] at zl
    have e1 : (D.flatten ++ T).take a ++ (Z ++ (D.flatten ++ T).drop (a + 20)) = (D ++ [Z]).flatten ++ T.drop 20 := by
      rw [(tk 20).1, (tk 20).2]; simp
    have hl2 : (D ++ [Z]).flatten.length = a + 20 := by simp only [List.flatten_append, List.flatten_cons, List.flatten_nil, List.append_nil, List.length_append]; omega
    have hinc : V.lf (.int .i64 (IntKind.i64.wrap (((a + 20 : Nat) : Int) + 20))) = V.lf (.int .i64 ((a + 20 + 20 : Nat) : Int)) := by rw [w64 (by omega) (by omega)]; congr 2
    conv => whnf
    refine ⟨l.length - (D ++ [Z]).flatten.length, [(0, 0)], S0 (D ++ [Z]).flatten.length, H0 ((D ++ [Z]).flatten ++ T.drop 20), by rw [hl2]; omega, ⟨rfl, ⟨?_, ?_, rfl, rfl, rfl, rfl, rfl, trivial⟩, ?_, trivial⟩, D ++ [Z], T.drop 20, fun r hr => ?_, ?_, rfl, rfl, rfl⟩
    · rw [hl2]; exact hinc
    · rw [hl2]; rfl
    · rw [← e1]; rfl
    · rcases List.mem_append.1 hr with hr | hr
      · exact g1 r hr
      · simp at hr; subst hr; exact ⟨z1, by omega⟩
    · refine List.Perm.trans ?_ g2
      rw [List.flatten_append, List.append_assoc]
      refine (List.Perm.refl _).append ?_
      rw [List.flatten_cons, List.flatten_nil, List.append_nil]
      have := z2.append_right (T.drop 20)
      rwa [List.take_append_drop] at this
  · have h1' : l.length < a + 20 := by have := of_decide_eq_false h1; omega
    conv => whnf
    refine ⟨⟨D.flatten ++ T, a, l.length, ⟨by omega, by rw [List.length_append]; omega⟩, by rw [List.length_append]; omega⟩, rfl, ?_⟩
    rintro _ _ ⟨rfl, Z, rfl, z1, z2⟩
    replace z2 : Z.Perm (((D.flatten ++ T).drop a).take (l.length - a)) := z2
    rw [dr, List.take_of_length_le (by omega)] at z2
    have zl := z2.length_eq
    obtain ⟨q, hq⟩ : ∃ q, q = (D.flatten ++ T).take a ++ (Z ++ (D.flatten ++ T).drop l.length) := ⟨_, rfl⟩
    have e1 : q = D.flatten ++ Z := by
      rw [hq, (tk 0).1, List.drop_eq_nil_of_le (by rw [List.length_append]; omega), List.append_nil]
    have qp : q.Perm l := by rw [e1]; exact ((List.Perm.refl _).append z2).trans g2
    have start : ∃ R : List (List VX), Runs 20 R ∧ q = R.flatten := by
      cases hZ : Z with
      | nil => exact ⟨D ++ [], runs_app (by decide) g1 trivial, by rw [e1, hZ]; simp⟩
      | cons x Z' => exact ⟨D ++ [Z], runs_app (by decide) g1 ⟨z1, by rw [hZ]; simp, by omega⟩, by rw [e1]; simp⟩
    clear z1 z2 tk dr
    obtain ⟨R, r1, r2⟩ := start
    conv => whnf
    let S1 : Nat → Sl := fun w => [(6, .lf (.int .i64 (w : Int))), (2, .fn 75 []), (1, .lf (.int .i64 (l.length : Int))), (1000000, .sl 0 none), (0, .sl 0 none)]
    refine ⟨fun z s h => ∃ (w : Nat) (R : List (List VX)), (20 ≤ w ∧ w ≤ 1000) ∧ Runs w R ∧ R.flatten.Perm l ∧ z = l.length - w ∧ s = S1 w ∧ h = H0 R.flatten, l.length - 20, [(0, 0)], S1 20, H0 R.flatten, ⟨rfl, ⟨rfl, rfl, rfl, rfl, rfl, trivial⟩, (by rw [← r2, hq]; rfl), trivial⟩, ⟨20, R, by omega, r1, by rw [← r2]; exact qp, rfl, rfl, rfl⟩, ?_⟩
    clear r1 r2 qp e1 hq zl
    rintro z _ _ ⟨w, R, ⟨w1, w2⟩, r1, r2, rfl, rfl, rfl⟩
    have rl := r2.length_eq
    conv => whnf
    refine br2 (fun h2 => ?_) (fun h2 => ?_)
    · have h2' : w < l.length := by have := of_decide_eq_true h2; omega
      have m2 : V.lf (.int .i64 (IntKind.i64.wrap (2 * (w : Int)))) = V.lf (.int .i64 ((0 + 2 * w : Nat) : Int)) := by rw [w64 (by omega) (by omega)]; congr 2; omega
      conv => whnf
      let S2 : Nat → Sl := fun a => [(8, .lf (.int .i64 ((a + 2 * w : Nat) : Int))), (7, .lf (.int .i64 (a : Int))), (6, .lf (.int .i64 (w : Int))), (2, .fn 75 []), (1, .lf (.int .i64 (l.length : Int))), (1000000, .sl 0 none), (0, .sl 0 none)]
      refine ⟨fun z s h => ∃ (D T : List (List VX)), (∀ r ∈ D, Sd ltU r ∧ r.length = 2 * w) ∧ Runs w T ∧ (D.flatten ++ T.flatten).Perm l ∧ z = l.length - D.flatten.length ∧ s = S2 D.flatten.length ∧ h = H0 (D.flatten ++ T.flatten), l.length, [(0, 0)], S2 0, H0 R.flatten, ⟨rfl, ⟨m2, rfl, rfl, rfl, rfl, rfl, rfl, trivial⟩, rfl, trivial⟩, ⟨[], R, by simp, r1, r2, rfl, rfl, rfl⟩, ?_⟩
      clear m2 r1 r2 rl
      rintro z _ _ ⟨D, T, g1, g2, g3, rfl, rfl, rfl⟩
      have hlen := g3.length_eq
      rw [List.length_append] at hlen
      obtain ⟨a, ha⟩ : ∃ a, a = D.flatten.length := ⟨_, rfl⟩
      rw [← ha] at hlen ⊢
      conv => whnf
      refine br2 (fun h3 => ?_) (fun h3 => ?_)
      · have h3' : a + 2 * w ≤ l.length := by have := of_decide_eq_true h3; omega
        obtain ⟨r, r2, rs, rfl, t1, t2, t3, t4, t5, t6, t7, t8⟩ := runs_two g2 (by omega)
        simp only [List.flatten_cons, List.length_append] at hlen
        have t9 : r2.length = w := by
          rcases rs with _ | ⟨x, rs⟩
          · simp at hlen; omega
          · exact t7 (by simp)
        have eA : [Vm.D.lf (.int .i64 ((D.flatten.length + r.length : Nat) : Int))] = [Vm.D.lf (.int .i64 (IntKind.i64.wrap ((a : Int) + (w : Int))))] := by rw [w64 (by omega) (by omega)]; congr 4; omega
        have eB : [Vm.D.lf (.int .i64 ((D.flatten.length + r.length + r2.length : Nat) : Int))] = [Vm.D.lf (.int .i64 ((a + 2 * w : Nat) : Int))] := by congr 4; omega
        have eD : [Vm.D.lf (.int .i64 (D.flatten.length : Int))] = [Vm.D.lf (.int .i64 (a : Int))] := by rw [ha]
        have eI : V.lf (.int .i64 (IntKind.i64.wrap (((a + 2 * w : Nat) : Int) + IntKind.i64.wrap (2 * (w : Int))))) = V.lf (.int .i64 ((a + 2 * w + 2 * w : Nat) : Int)) := by rw [w64 (n := 2 * (w : Int)) (by omega) (by omega), w64 (by omega) (by omega)]; congr 2
        have hne : ∀ {x : List VX}, 0 < x.length → x ≠ [] := fun {x} h e => by rw [e] at h; simp at h
        conv => whnf
        refine ⟨⟨D.flatten, r, r2, rs.flatten, hne (by omega), hne t4, t1, t3, by simp only [List.length_append]; omega⟩, by rw [← eA, ← eB, ← eD]; rfl, ?_⟩
        rintro _ _ ⟨rfl, Z, rfl, z1, z2⟩
        replace z2 : Z.Perm (r ++ r2) := z2
        have zl := z2.length_eq
        rw [List.length_append] at zl
        have hl2 : (D ++ [Z]).flatten.length = a + 2 * w := by simp only [List.flatten_append, List.flatten_cons, List.flatten_nil, List.append_nil, List.length_append]; omega
        have e1 : D.flatten ++ (Z ++ rs.flatten) = (D ++ [Z]).flatten ++ rs.flatten := by simp
        conv => whnf
        refine ⟨l.length - (D ++ [Z]).flatten.length, [(0, 0)], S2 (D ++ [Z]).flatten.length, H0 ((D ++ [Z]).flatten ++ rs.flatten), by rw [hl2]; omega, ⟨rfl, ⟨?_, ?_, rfl, rfl, rfl, rfl, rfl, trivial⟩, ?_, trivial⟩, D ++ [Z], rs, fun x hx => ?_, t8, ?_, rfl, rfl, rfl⟩
        · rw [hl2]; exact eI
        · rw [hl2]; rfl
        · rw [← e1]; rfl
        · rcases List.mem_append.1 hx with hx | hx
          · exact g1 x hx
          · simp at hx; subst hx; exact ⟨z1, by omega⟩
        · refine List.Perm.trans ?_ g3
          rw [← e1]
          refine (List.Perm.refl _).append ?_
          simp only [List.flatten_cons]
          rw [← List.append_assoc]
          exact z2.append_right _
      · have h3' : l.length < a + 2 * w := by have := of_decide_eq_false h3; omega
        have eA : IntKind.i64.wrap ((a : Int) + (w : Int)) = ((a + w : Nat) : Int) := by rw [w64 (by omega) (by omega)]; omega
        have eM : V.lf (.int .i64 (IntKind.i64.wrap ((w : Int) * 2))) = V.lf (.int .i64 ((2 * w : Nat) : Int)) := by rw [w64 (by omega) (by omega)]; congr 2; omega
        conv => whnf
        refine br2 (fun h4 => ?_) (fun h4 => ?_)
        · have h4' : a + w < l.length := by
            have h5 : IntKind.i64.wrap ((a : Int) + (w : Int)) < (l.length : Int) := of_decide_eq_true h4
            rw [eA] at h5; omega
          obtain ⟨r, r2, rs, rfl, t1, t2, t3, t4, t5, t6, t7, t8⟩ := runs_two g2 (by omega)
          simp only [List.flatten_cons, List.length_append] at hlen
          have t9 : rs = [] := by
            rcases rs with _ | ⟨x, rs⟩
            · rfl
            · exfalso
              have h6 := t7 (by simp)
              have h7 : 0 < x.length := by
                rcases rs with _ | ⟨y, rs⟩
                · exact t8.2.1
                · have := t8.2.1; omega
              simp only [List.flatten_cons, List.length_append] at hlen
              omega
          subst t9
          simp only [List.flatten_nil, List.length_nil] at hlen
          have eA2 : [Vm.D.lf (.int .i64 ((D.flatten.length + r.length : Nat) : Int))] = [Vm.D.lf (.int .i64 (IntKind.i64.wrap ((a : Int) + (w : Int))))] := by rw [eA]; congr 4; omega
          have eB : [Vm.D.lf (.int .i64 ((D.flatten.length + r.length + r2.length : Nat) : Int))] = [Vm.D.lf (.int .i64 (l.length : Int))] := by congr 4; omega
          have eD : [Vm.D.lf (.int .i64 (D.flatten.length : Int))] = [Vm.D.lf (.int .i64 (a : Int))] := by rw [ha]
          have hne : ∀ {x : List VX}, 0 < x.length → x ≠ [] := fun {x} h e => by rw [e] at h; simp at h
          clear eA
          conv => whnf
          refine ⟨⟨D.flatten, r, r2, [], hne (by omega), hne t4, t1, t3, by simp only [List.length_append, List.length_nil]; omega⟩, by rw [← eA2, ← eB, ← eD]; rfl, ?_⟩
          rintro _ _ ⟨rfl, Z, rfl, z1, z2⟩
          replace z2 : Z.Perm (r ++ r2) := z2
          have zl := z2.length_eq
          rw [List.length_append] at zl
          have e1 : D.flatten ++ (Z ++ []) = (D ++ [Z]).flatten := by simp
          conv => whnf
          refine ⟨l.length - 2 * w, [(0, 0)], S1 (2 * w), H0 (D ++ [Z]).flatten, by omega, ⟨rfl, ⟨eM, rfl, rfl, rfl, rfl, trivial⟩, ?_, trivial⟩, 2 * w, D ++ [Z], by omega, runs_app (by omega) g1 ⟨z1, by omega, by omega⟩, ?_, rfl, rfl, rfl⟩
          · rw [← e1]; rfl
          · refine List.Perm.trans ?_ g3
            rw [← e1]
            refine (List.Perm.refl _).append ?_
            simp only [List.flatten_cons, List.flatten_nil, List.append_nil]
            exact z2
        · have h4' : l.length ≤ a + w := by
            have h5 : ¬ IntKind.i64.wrap ((a : Int) + (w : Int)) < (l.length : Int) := of_decide_eq_false h4
            rw [eA] at h5; omega
          clear eA
          have rt : Runs (2 * w) (D ++ T) := by
            refine runs_app (by omega) g1 ?_
            match T, g2 with
            | [], _ => trivial
            | [r], h => exact ⟨h.1, h.2.1, by have := h.2.2; omega⟩
            | r :: r2 :: rs, h =>
              exfalso
              have h6 := h.2.1
              have h7 : 0 < r2.length := by
                match rs, h.2.2 with
                | [], h => exact h.2.1
                | _ :: _, h => have := h.2.1; omega
              simp only [List.flatten_cons, List.length_append] at hlen
              omega
          have e1 : D.flatten ++ T.flatten = (D ++ T).flatten := by simp
          conv => whnf
          refine ⟨l.length - 2 * w, [(0, 0)], S1 (2 * w), H0 (D ++ T).flatten, by omega, ⟨rfl, ⟨eM, rfl, rfl, rfl, rfl, trivial⟩, ?_, trivial⟩, 2 * w, D ++ T, by omega, rt, by rw [← e1]; exact g3, rfl, rfl, rfl⟩
          rw [← e1]; rfl
    · have h2' : l.length ≤ w := by have := of_decide_eq_false h2; omega
      conv => whnf
      exact ⟨⟨rfl, R.flatten, rfl, runs_one r1 (by omega) (by omega), r2⟩⟩
theorem stbU_ok : FnOk Tryz.prog 127 cStb := fnOk_of fun x => fnX_at tab_ok (SOk.cons insS_ok (SOk.cons symU_ok SOk.nil)) mixed (fn := Tryz.f127) (code := body Tryz.f127) ⟨Tryz.func127, rfl, by kernel_rfl, by kernel_rfl, by kernel_rfl, by kernel_rfl⟩ (ev_stbU x)
def cSortU : Con := { X := StbX, params := [(.mut, false), (.rd, false)], res := [], resOwn := true, ins := fun x => [[.row 10 VX.ds x.l], [cmpD]], post := fun x outs r => r = [] ∧ ∃ Z, outs = [[.row 10 VX.ds Z]] ∧ Sd ltU Z ∧ Z.Perm x.l }
theorem ev_sortU : ∀ x, evFnX tab [(127, cStb)] cSortU Tryz.f74 (body Tryz.f74) x := by
  rintro ⟨l, hl⟩
  conv => whnf
  intro _
  conv => whnf
  refine ⟨⟨l, hl⟩, rfl, ?_⟩
  rintro _ _ ⟨rfl, Z, rfl, z1, z2⟩
  conv => whnf
  exact ⟨⟨rfl, Z, rfl, z1, z2⟩⟩
theorem sortU_ok : FnOk Tryz.prog 74 cSortU := fnOk_of fun x => fnX_at tab_ok (SOk.cons stbU_ok SOk.nil) mixed (fn := Tryz.f74) (code := body Tryz.f74) ⟨Tryz.func74, rfl, by kernel_rfl, by kernel_rfl, by kernel_rfl, by kernel_rfl⟩ (ev_sortU x)
end Go.Vm
namespace Go.Vm
open Go.Proofs
set_option maxRecDepth 100000
set_option linter.unusedVariables false
set_option linter.unusedSimpArgs false

end Go.Vm
namespace Go.Vm
open Go.Proofs
set_option maxRecDepth 100000
set_option linter.unusedVariables false
set_option linter.unusedSimpArgs false
set_option maxHeartbeats 4000000

abbrev PrpX := TxX × List RecX
def encP (p : PrpX) : List D := [.lf (.int .i64 p.1.c), .lf (.int .i64 p.1.e), .lf (.int .i64 p.1.n), .row 5 RecX.ds p.2]
def VX.u (v : VX) : Und TxX RecX := v.1.u
theorem vx_of : ∀ L : List UnX, (∀ u ∈ L, txOkB u.tx = true ∧ 0 ≤ u.num ∧ u.num < 16) → ∃ vs : List VX, vs.map (·.1) = L
  | [], _ => ⟨[], rfl⟩
  | u :: L, h => by
    obtain ⟨vs, e⟩ := vx_of L fun x hx => h x (by simp [hx])
    exact ⟨(⟨u, h u (by simp)⟩ : VX) :: vs, congrArg (u :: ·) e⟩
theorem undL_vx (l : List RngX) : ∃ vs : List VX, vs.map (·.1) = undL l := vx_of _ fun u hu => by
  obtain ⟨p, _, hp⟩ := undL_ok hu
  exact ⟨hp.tx, hp.num⟩
theorem sorted_preps {l : List RngX} (hs : Srt l) {vs Z : List VX} (hv : vs.map (·.1) = undL l) (hz : Sd ltU Z) (hp : Z.Perm vs) : PrepsR l (groups (Z.map VX.u)) := by
  have hd : Z.Pairwise fun a b => ¬ (a.1.tx = b.1.tx ∧ a.1.num = b.1.num) := by
    have h1 := undL_dst hs
    rw [← hv, List.pairwise_map] at h1
    exact (hp.pairwise_iff fun {a b} h e => h ⟨e.1.symm, e.2.symm⟩).2 h1
  have hm : (vs.map VX.u) = (undL l).map UnX.u := by rw [← hv, List.map_map]; rfl
  unfold PrepsR
  refine groups_perm ?_ (by rw [← hm]; exact hp.map _) fun u hu => ?_
  · rw [List.pairwise_map]
    have := hz.and hd
    refine this.imp fun {a b} h => ?_
    obtain ⟨h1, h2⟩ := h
    show strLt (txT a.1.tx) (txT b.1.tx) = true ∨ a.1.tx = b.1.tx ∧ a.1.num.toNat < b.1.num.toNat
    cases e : strLt (txT a.1.tx) (txT b.1.tx) with
    | true => exact .inl rfl
    | false =>
      cases e' : strLt (txT b.1.tx) (txT a.1.tx) with
      | true =>
        rw [ltU_iff.2 (.inl e')] at h1; cases h1
      | false =>
        have hab := txT_inj a.2.1 b.2.1 (strLt_tri e e')
        refine .inr ⟨hab, ?_⟩
        have hb := b.2.2
        have ha := a.2.2
        have h3 : ¬ b.1.num < a.1.num := fun h => by
          rw [ltU_iff.2 (.inr ⟨hab.symm, h⟩)] at h1; cases h1
        have h4 : a.1.num ≠ b.1.num := fun h => h2 ⟨hab, h⟩
        omega
  · obtain ⟨x, hx, rfl⟩ := List.mem_map.1 hu
    obtain ⟨p, _, hp⟩ := undL_ok hx
    have := hp.num
    show x.num.toNat < 16
    omega
theorem groups_snoc {Z : List VX} {i : Nat} {v : VX} (h : Z[i]? = some v) : groups ((Z.take (i + 1)).map VX.u) = addG (groups ((Z.take i).map VX.u)) v.u := by
  rw [List.take_add_one, h]
  simp [groups]
theorem groups_len (S : List (Und TxX RecX)) : (groups S).length ≤ S.length := by
  have key : ∀ (S : List (Und TxX RecX)) (g : List (TxX × List RecX)), (S.foldl addG g).length ≤ g.length + S.length := by
    intro S
    induction S with
    | nil => intro g; simp
    | cons u S ih =>
      intro g
      have h1 := ih (addG g u)
      have h2 : (addG g u).length ≤ g.length + 1 := by
        unfold addG
        split
        · split
          · rw [List.length_append, List.length_dropLast]; simp only [List.length_singleton]; omega
          · simp
        · simp
      simp only [List.foldl_cons, List.length_cons]
      omega
  simpa [groups] using key S []
/-- Recs of all groups are no more than what was gathered. -/
theorem groups_recs (S : List (Und TxX RecX)) : ∀ p ∈ groups S, p.2.length ≤ S.length := by
  have key : ∀ (S : List (Und TxX RecX)) (g : List (TxX × List RecX)) (k : Nat), (∀ p ∈ g, p.2.length ≤ k) → ∀ p ∈ S.foldl addG g, p.2.length ≤ k + S.length := by
    intro S
    induction S with
    | nil => intro g k h p hp; simpa using h p hp
    | cons u S ih =>
      intro g k h p hp
      have h1 := ih (addG g u) (k + 1) (fun q hq => by
        unfold addG at hq
        split at hq
        · rename_i w hw
          split at hq
          · rcases List.mem_append.1 hq with hq | hq
            · have := h q (List.dropLast_subset _ hq); omega
            · simp at hq; subst hq
              have := h w (List.mem_of_getLast? hw)
              simp; omega
          · rcases List.mem_append.1 hq with hq | hq
            · have := h q hq; omega
            · simp at hq; subst hq; simp
        · simp at hq; subst hq; simp) p hp
      simp only [List.length_cons]
      omega
  intro p hp
  simpa using key S [] 0 (by simp) p hp
theorem addG_new {Q : List PrpX} {pt : TxX} {pr : List RecX} {u : Und TxX RecX} (h : pt ≠ u.1) : addG (Q ++ [(pt, pr)]) u = ((Q ++ [(pt, pr)]) ++ [(u.1, [])]).set (Q.length + 1) (u.1, [] ++ [u.2.2]) := by
  unfold addG
  rw [List.getLast?_concat]
  simp only
  rw [if_neg h, List.set_append_right _ _ (by simp), List.length_append]
  simp
theorem addG_same {Q : List PrpX} {pt : TxX} {pr : List RecX} {u : Und TxX RecX} (h : pt = u.1) : addG (Q ++ [(pt, pr)]) u = (Q ++ [(pt, pr)]).set Q.length (pt, pr ++ [u.2.2]) := by
  unfold addG
  rw [List.getLast?_concat]
  simp only
  rw [if_pos h, List.set_append_right _ _ (Nat.le_refl _), Nat.sub_self, List.dropLast_concat]; rfl
theorem nthN {β : Type} {l : List β} {j : Nat} {y : β} (h : l[j]? = some y) : nth l j = some y := by rw [nth_eq]; exact h
def cPreps0 : Con := relC PrsX2 [(.rd, false)] [false] (fun x => [[.row 2 RngX.ds x.l]]) (fun x r => ∃ P : List PrpX, r = [[.row 4 encP P]] ∧ PrepsR x.l P)
end Go.Vm
namespace Go.Vm
open Go.Proofs
set_option maxRecDepth 100000
set_option linter.unusedVariables false
set_option linter.unusedSimpArgs false
set_option maxHeartbeats 8000000

def PrepsT (N : List NodeX) (P : List PrpX) : Prop := ∃ l, AllR N l ∧ PrepsR l P
def cPreps : Con := relC TreeX [(.rd, true)] [false] (fun t => [[.row 3 NodeX.ds t.N]]) (fun t r => ∃ P : List PrpX, r = [[.row 4 encP P]] ∧ PrepsT t.N P)
/-- One transaction's place, or none any more. -/
def encPO : Option PrpX → List D
  | none => [.dead, .dead, .dead, .dead]
  | some p => encP p
theorem encPO_len (o : Option PrpX) : (encPO o).length = 4 := by cases o <;> rfl
theorem getS {α : Type} {l : List α} {i : Nat} {y : α} (h : l[i]? = some y) : (l.map some)[i]? = some (some y) := by rw [List.getElem?_map, h]; rfl
/-- Where a transaction goes: ahead of the first whose text is greater. -/
def PlaceI (x : TxX) (P : List PrpX) (i a : Nat) : Prop := (a = P.length ∨ a < i ∧ ∃ p, P[a]? = some p ∧ strLt (txT x) (txT p.1) = true) ∧ ∀ p ∈ P.take (min i a), strLt (txT x) (txT p.1) = false
theorem PlaceI.no {x : TxX} {P : List PrpX} {i a : Nat} {p : PrpX} (h : PlaceI x P i a) (hp : P[i]? = some p) (h1 : a ≤ i ∨ strLt (txT x) (txT p.1) = false) : PlaceI x P (i + 1) a := by
  have hi := (List.getElem?_eq_some_iff.1 hp).1
  refine ⟨h.1.imp id fun ⟨b, c⟩ => ⟨by omega, c⟩, fun q hq => ?_⟩
  rcases Nat.lt_or_ge i a with h2 | h2
  · rw [show min (i + 1) a = i + 1 by omega, List.take_add_one, hp] at hq
    have h3 := h.2
    rw [show min i a = i by omega] at h3
    rcases List.mem_append.1 hq with hq | hq
    · exact h3 q hq
    · simp at hq; subst hq
      rcases h1 with h1 | h1
      · omega
      · exact h1
  · have h3 := h.2
    rw [show min i a = a by omega] at h3
    rw [show min (i + 1) a = a by omega] at hq
    exact h3 q hq
theorem PlaceI.yes {x : TxX} {P : List PrpX} {i a : Nat} {p : PrpX} (h : PlaceI x P i a) (hp : P[i]? = some p) (h1 : i < a) (h2 : strLt (txT x) (txT p.1) = true) : PlaceI x P (i + 1) i := by
  refine ⟨.inr ⟨by omega, p, hp, h2⟩, fun q hq => ?_⟩
  have h3 := h.2
  rw [show min i a = i by omega] at h3
  rw [show min (i + 1) i = i by omega] at hq
  exact h3 q hq
/-- The records of the first k numbers. -/
noncomputable def recsTo (all : List (Und TxX RecX)) (x : TxX) (k : Nat) : List RecX := (List.range k).flatMap fun n => (all.filter fun u => decide (u.1 = x ∧ u.2.1 = n)).map fun u => u.2.2
theorem recsTo_succ (all : List (Und TxX RecX)) (x : TxX) (k : Nat) : recsTo all x (k + 1) = recsTo all x k ++ (all.filter fun u => decide (u.1 = x ∧ u.2.1 = k)).map fun u => u.2.2 := by
  unfold recsTo
  rw [List.range_succ, List.flatMap_append]; simp
noncomputable def recsAt (l : List RngX) (x : TxX) (k j : Nat) : List RecX := ((((undL (l.take j)).map UnX.u).filter fun u => decide (u.1 = x ∧ u.2.1 = k)).map fun u => u.2.2)
theorem recsAt_zero (l : List RngX) (x : TxX) (k : Nat) : recsAt l x k 0 = [] := by
  unfold recsAt
  rw [List.take_zero]; rfl
theorem recsAt_no {l : List RngX} {x : TxX} {k j : Nat} {y : RngX} (hy : l[j]? = some y) (h : ∀ u, undP y = some u → ¬ (u.tx = x ∧ u.num.toNat = k)) : recsAt l x k (j + 1) = recsAt l x k j := by
  unfold recsAt
  rw [undL_take hy]
  cases e : undP y with
  | none => simp
  | some u =>
    have := h u e
    have h2 : decide (u.u.1 = x ∧ u.u.2.1 = k) = false := decide_eq_false this
    simp only [Option.toList, List.map_append, List.filter_append, List.map_cons, List.map_nil, List.filter_cons, List.filter_nil, h2]
    simp
theorem recsAt_yes {l : List RngX} {x : TxX} {k j : Nat} {y : RngX} {u : UnX} (hy : l[j]? = some y) (e : undP y = some u) (h : u.tx = x ∧ u.num.toNat = k) : recsAt l x k (j + 1) = recsAt l x k j ++ [u.rr] := by
  unfold recsAt
  rw [undL_take hy, e]
  have h2 : decide (u.u.1 = x ∧ u.u.2.1 = k) = true := decide_eq_true h
  simp only [Option.toList, List.map_append, List.filter_append, List.map_cons, List.map_nil, List.filter_cons, List.filter_nil, h2]
  rfl
theorem take_cons_map {P : List PrpX} {a : Nat} {q : PrpX} (ha : a ≤ P.length) (n : Nat) {k : Nat} (hk : P.length ≤ a + k) :
    ((((P.map some).take a ++ List.replicate n none ++ (P.map some).drop (a + n)).drop 0).take a ++ [some q]) ++ ([] ++ ((P.map some).drop a).take k) = (P.take a ++ q :: P.drop a).map some := by
  have h1 : ((P.map some).take a).length = a := by rw [List.length_take, List.length_map]; omega
  have e1 : (((P.map some).take a ++ List.replicate n none ++ (P.map some).drop (a + n)).drop 0).take a = (P.take a).map some := by
    rw [List.drop_zero, List.append_assoc, List.take_append_of_le_length (by omega), List.take_of_length_le (by omega), List.map_take]
  have e2 : ((P.map some).drop a).take k = (P.drop a).map some := by
    rw [List.take_of_length_le (by rw [List.length_drop, List.length_map]; omega), List.map_drop]
  rw [e1, e2]
  simp
/-- A part of a function's code. -/
def cAt : List Nat → Code → Code
  | [], c => c
  | 1 :: p, .seq a _ => cAt p a
  | 2 :: p, .seq _ b => cAt p b
  | 3 :: p, .block _ c => cAt p c
  | 4 :: p, .loop c => cAt p c
  | 5 :: p, .cond _ a _ => cAt p a
  | 6 :: p, .cond _ _ b => cAt p b
  | _, c => c
abbrev pSS : Cons := [(1000003, cGh), (1000019, cGh), (1000032, cGh), (29, cTreeAll), (30, cRead8), (40, cTxText)]
def pH0 (l : List RngX) (q : List PrpX) : Hp := [(400, some (.row .own 2 RngX.ds l)), (368, some (.row .own 4 encPO (q.map some)))]
def pH1 (l : List RngX) (P : List PrpX) (x : TxX) : Hp := (112, some (.arr true 3 [[.lf (.int .i64 x.c), .lf (.int .i64 x.e), .lf (.int .i64 x.n)]])) :: pH0 l P
def pS1 (l : List RngX) (P : List PrpX) (i : Nat) (kn : Bool) (a j : Nat) : Sl := [(45, .lf (.int .i64 j)), (44, .lf (.int .i64 ((P.map some).length : Int))), (12, .lf (.int .i64 a)), (11, .lf (.bool kn)), (7, .pt 112 0 0), (28, .lf (.int .i64 i)), (27, .lf (.int .i64 l.length)), (26, .sl 400 none), (4, .sl 400 none), (3, .sl 368 none)]
def pS2 (l : List RngX) (i a k : Nat) : Sl := [(15, .lf (.int .i64 k)), (14, .pt 224 0 0), (12, .lf (.int .i64 a)), (7, .pt 112 0 0), (28, .lf (.int .i64 i)), (27, .lf (.int .i64 l.length)), (26, .sl 400 none), (4, .sl 400 none), (3, .sl 368 none)]
def pS3 (l : List RngX) (i a k j : Nat) : Sl := (80, .lf (.int .i64 j)) :: (79, .lf (.int .i64 l.length)) :: (78, .sl 400 none) :: pS2 l i a k
def pH2 (l : List RngX) (P : List PrpX) (x : TxX) (rs : List RecX) : Hp := (224, some (.arr true 4 [[.lf (.int .i64 x.c), .lf (.int .i64 x.e), .lf (.int .i64 x.n), .sl 16000 none]])) :: (16000, some (.row .own 5 RecX.ds rs)) :: (112, some (.arr true 3 [[.lf (.int .i64 x.c), .lf (.int .i64 x.e), .lf (.int .i64 x.n)]])) :: pH0 l P
section
variable {l : List RngX} {P : List PrpX} {x : TxX} {i a : Nat} {K : E → Sl → Hp → Prop}
theorem p6_body6 (hP : PairsOkP l) {k : Nat} (hk : k < 16) {rs rs' : List RecX} {j : Nat} (e3 : j ≤ l.length) (e4 : rs' = rs ++ recsAt l x k j) (e5 : rs'.length ≤ 200 * k + j)
    (hN : j < l.length → ∀ s h ρ rs2, rs2 = rs ++ recsAt l x k (j + 1) → rs2.length ≤ 200 * k + (j + 1) → Le ρ (pS3 l i a k (j + 1)) (pH2 l P x rs2) s h → K .normal s h) (hE : j = l.length → ∀ v, K (.exit 6) ((81, .lf (.bool false)) :: (81, .lf (.bool v)) :: pS3 l i a k j) (pH2 l P x rs')) : evX tab pSS (cAt [2, 2, 2, 1, 2, 3, 4, 2, 2, 1, 3, 2, 2, 2, 2, 2, 2, 2, 1, 2, 3, 4, 2, 1, 3, 2, 3, 4] (body Tryz.f16)) (pS3 l i a k j) (pH2 l P x rs') K := by
  have hl : l.length ≤ 200 := hP.len
  conv => whnf
  refine br2 (fun h7 => ?_) (fun h7 => ?_)
  · have hj : j < l.length := by have := of_decide_eq_true h7; omega
    obtain ⟨q, hq⟩ := getL hj
    have cc := pairs_prX hP (List.mem_of_getElem? hq)
    have hincJ := incI hj (show l.length ≤ 9223372036854775807 by omega)
    have backJ : ∀ {s' : Sl} {h' : Hp} (ρ : List (Nat × Nat)) (rs2 : List RecX), rs2 = rs ++ recsAt l x k (j + 1) → rs2.length ≤ 200 * k + (j + 1) → Le ρ (pS3 l i a k (j + 1)) (pH2 l P x rs2) s' h' → K .normal s' h' := fun ρ rs2 q1 q2 hle => hN hj _ _ ρ rs2 q1 q2 hle
    have stay : (∀ u, undP q = some u → ¬ (u.tx = x ∧ u.num.toNat = k)) → rs' = rs ++ recsAt l x k (j + 1) := fun h => by rw [recsAt_no hq h]; exact e4
    conv => whnf
    refine ⟨Int.natCast_nonneg _, ltI hq, ?_⟩
    conv => whnf
    refine ex2 _ (nthI hq) ?_
    conv => whnf
    refine ⟨⟨q, cc.1, cc.2.1, cc.2.2⟩, rfl, ?_⟩
    rintro _ _ ⟨rfl, x', n', r', ok', rfl, d1, d2⟩
    conv => whnf
    replace d1 : ok' = true → undP q = some ⟨q.lo, x', n', r'⟩ := d1
    replace d2 : ok' = false → undP q = none ∧ x' = tx0 := d2
    cases ok' with
    | false =>
      conv => whnf
      refine backJ [(224, 224), (16000, 16000), (112, 112), (400, 400), (368, 368)] rs' (stay fun u hu => by rw [(d2 rfl).1] at hu; cases hu) (by omega) ⟨rfl, ⟨hincJ, rfl, rfl, rfl, rfl, rfl, rfl, rfl, rfl, rfl, rfl, rfl, trivial⟩, rfl, rfl, rfl, rfl, rfl, trivial⟩
    | true =>
      have hu' := d1 rfl
      have hn' := (undP_is hu').num
      replace hn' : 0 ≤ n' ∧ n' < 16 := hn'
      conv => whnf
      refine br2 (fun h8 => ?_) (fun h8 => ?_)
      · have h8' : x' = x := txEq_iff.1 h8
        conv => whnf
        refine br2 (fun h9 => ?_) (fun h9 => ?_)
        · have h9' : n' = (k : Int) := by
            replace h9 : (n' == (k : Int)) = true := h9
            simpa using h9
          conv => whnf
          refine ⟨[r'], rfl, (show rs'.length + 1 ≤ 4294967296 by omega), ?_⟩
          conv => whnf
          refine backJ [(224, 224), (1696, 16000), (112, 112), (400, 400), (368, 368)] (rs' ++ [r']) ?_ (by rw [List.length_append]; simp; omega) ⟨rfl, ⟨hincJ, rfl, rfl, rfl, rfl, rfl, rfl, rfl, rfl, rfl, rfl, rfl, trivial⟩, rfl, rfl, rfl, rfl, rfl, trivial⟩
          rw [recsAt_yes hq hu' ⟨h8', by show n'.toNat = k; omega⟩, e4]; simp
        · have h9' : n' ≠ (k : Int) := by
            replace h9 : (n' == (k : Int)) = false := h9
            simpa using h9
          conv => whnf
          refine backJ [(224, 224), (16000, 16000), (112, 112), (400, 400), (368, 368)] rs' (stay fun u hu => by rw [hu'] at hu; cases hu; rintro ⟨_, e⟩; replace e : n'.toNat = k := e; omega) (by omega) ?_
          exact ⟨rfl, ⟨hincJ, rfl, rfl, rfl, rfl, rfl, rfl, rfl, rfl, rfl, rfl, rfl, trivial⟩, rfl, rfl, rfl, rfl, rfl, trivial⟩
      · have h8' : x' ≠ x := fun e => by
          replace h8 : txEq x' x = false := h8
          rw [txEq_iff.2 e] at h8; cases h8
        conv => whnf
        refine backJ [(224, 224), (16000, 16000), (112, 112), (400, 400), (368, 368)] rs' (stay fun u hu => by rw [hu'] at hu; cases hu; rintro ⟨e, _⟩; exact h8' e) (by omega) ?_
        exact ⟨rfl, ⟨hincJ, rfl, rfl, rfl, rfl, rfl, rfl, rfl, rfl, rfl, rfl, rfl, trivial⟩, rfl, rfl, rfl, rfl, rfl, trivial⟩
  · have hj : j = l.length := by have := of_decide_eq_false h7; omega
    conv => whnf
    exact hE hj _
theorem p6_body4 (hP : PairsOkP l) {k : Nat} {rs : List RecX} (e0 : k ≤ 16) (e1 : rs = recsTo ((undL l).map UnX.u) x k) (e2 : rs.length ≤ 200 * k)
    (hN : k < 16 → ∀ s h ρ rs2, rs2 = recsTo ((undL l).map UnX.u) x (k + 1) → rs2.length ≤ 200 * (k + 1) → Le ρ (pS2 l i a (k + 1)) (pH2 l P x rs2) s h → K .normal s h) (hE : k = 16 → ∀ v, K (.exit 4) ((75, .lf (.bool false)) :: (75, .lf (.bool v)) :: (74, .lf (.int .i64 k)) :: pS2 l i a k) (pH2 l P x rs)) : evX tab pSS (cAt [2, 2, 2, 1, 2, 3, 4, 2, 2, 1, 3, 2, 2, 2, 2, 2, 2, 2, 1, 2, 3, 4] (body Tryz.f16)) (pS2 l i a k) (pH2 l P x rs) K := by
  have hl : l.length ≤ 200 := hP.len
  conv => whnf
  refine br2 (fun h6 => ?_) (fun h6 => ?_)
  · have hk : k < 16 := by have := of_decide_eq_true h6; omega
    have hrl : (recsAt l x k l.length).length ≤ l.length := by
      unfold recsAt
      rw [List.length_map]
      refine Nat.le_trans (List.length_filter_le _ _) ?_
      rw [List.length_map, List.take_length]
      exact undL_len l
    conv => whnf
    intro _
    conv => whnf
    refine ⟨fun z s h => ∃ (j : Nat) (rs' : List RecX), j ≤ l.length ∧ rs' = rs ++ recsAt l x k j ∧ rs'.length ≤ 200 * k + j ∧ z = l.length - j ∧ s = pS3 l i a k j ∧ h = pH2 l P x rs', l.length, [(224, 224), (16000, 16000), (112, 112), (400, 400), (368, 368)], pS3 l i a k 0, pH2 l P x rs, ⟨rfl, ⟨rfl, rfl, rfl, rfl, rfl, rfl, rfl, rfl, rfl, rfl, rfl, rfl, trivial⟩, rfl, rfl, rfl, rfl, rfl, trivial⟩, ⟨0, rs, by omega, by rw [recsAt_zero, List.append_nil], by omega, rfl, rfl, rfl⟩, ?_⟩
    rintro z _ _ ⟨j, rs', e3, e4, e5, rfl, rfl, rfl⟩
    refine p6_body6 hP hk e3 e4 e5 (fun hj s h ρ rs2 q1 q2 hle => ⟨l.length - (j + 1), ρ, _, _, by omega, hle, j + 1, rs2, hj, q1, q2, rfl, rfl, rfl⟩) (fun hj v => ?_)
    subst hj
    subst e4
    conv => whnf
    refine hN hk _ _ [(224, 224), (16000, 16000), (112, 112), (400, 400), (368, 368)] (rs ++ recsAt l x k l.length) ?_ (by rw [List.length_append]; omega) ⟨rfl, ⟨?_, rfl, rfl, rfl, rfl, rfl, rfl, rfl, rfl, trivial⟩, rfl, rfl, rfl, rfl, rfl, trivial⟩
    · rw [recsTo_succ, ← e1]
      unfold recsAt
      rw [List.take_length]
    · show V.lf (.int .i64 (IntKind.i64.wrap ((k : Int) + 1))) = _
      rw [w64 (by omega) (by omega)]; rfl
  · have hk : k = 16 := by have := of_decide_eq_false h6; omega
    conv => whnf
    exact hE hk _
theorem p6_body2 {ok : Bool} (hPl : P.length ≤ 9223372036854775807) {kn : Bool} {a j : Nat} (f0 : j ≤ P.length) (f1 : kn = true ↔ ok = false ∨ ∃ p ∈ P.take j, p.1 = x) (f2 : PlaceI x P j a)
    (hN : j < P.length → ∀ s h kn' a' ρ, (kn' = true ↔ ok = false ∨ ∃ p ∈ P.take (j + 1), p.1 = x) → PlaceI x P (j + 1) a' → Le ρ (pS1 l P i kn' a' (j + 1)) (pH1 l P x) s h → K .normal s h) (hE : j = P.length → ∀ v, K (.exit 2) ((46, .lf (.bool false)) :: (46, .lf (.bool v)) :: pS1 l P i kn a j) (pH1 l P x)) : evX tab pSS (cAt [2, 2, 2, 1, 2, 3, 4, 2, 2, 1, 3, 2, 2, 2, 2, 1, 2, 3, 4] (body Tryz.f16)) (pS1 l P i kn a j) (pH1 l P x) K := by
  conv => whnf
  refine br2 (fun h6 => ?_) (fun h6 => ?_)
  · have hjl : j < P.length := by
      have h9 : (j : Int) < (((P.map some).length : Nat) : Int) := of_decide_eq_true h6
      rw [List.length_map] at h9; omega
    obtain ⟨p, hj⟩ := getL hjl
    have hjS := getS hj
    have ejj : ((j : Nat) : Int) = ((j : Nat) : Int) := rfl
    have hincJ := incI hjl hPl
    have backJ : ∀ {s' : Sl} {h' : Hp} (kn' : Bool) (a' : Nat) (ρ : List (Nat × Nat)), (kn' = true ↔ ok = false ∨ ∃ p ∈ P.take (j + 1), p.1 = x) → PlaceI x P (j + 1) a' → Le ρ (pS1 l P i kn' a' (j + 1)) (pH1 l P x) s' h' → K .normal s' h' := fun kn' a' ρ q1 q2 hle => hN hjl _ _ kn' a' ρ q1 q2 hle
    conv => whnf
    repeat' ((conv => whnf); first
      | refine rc_i rfl ?_
      | refine rc_i (fun _ => rfl) ?_
      | refine ⟨(ixE ejj hjS).1, (ixE ejj hjS).2, ?_⟩
      | refine ex2 _ (nthE ejj hjS) ?_
      | refine rc_i ⟨(ixE ejj hjS).1, (ixE ejj hjS).2, rfl⟩ ?_
      | refine rc_i (ex2 _ (nthE ejj hjS) rfl) ?_)
    refine br2 (fun h7 => ?_) (fun h7 => ?_)
    · have h7' : p.1 = x := txEq_iff.1 h7
      have kn' : (true = true ↔ ok = false ∨ ∃ p ∈ P.take (j + 1), p.1 = x) := by
        refine ⟨fun _ => .inr ⟨p, ?_, h7'⟩, fun _ => rfl⟩
        rw [List.take_add_one, hj]; simp
      conv => whnf
      refine br2 (fun h8 => ?_) (fun h8 => ?_)
      · have h8' : j < a := by have := of_decide_eq_true h8; omega
        repeat' ((conv => whnf); first
          | refine rc_i rfl ?_
          | refine rc_i (fun _ => rfl) ?_
          | refine ⟨(ixE ejj hjS).1, (ixE ejj hjS).2, ?_⟩
          | refine ex2 _ (nthE ejj hjS) ?_
          | refine rc_i ⟨(ixE ejj hjS).1, (ixE ejj hjS).2, rfl⟩ ?_
          | refine rc_i (ex2 _ (nthE ejj hjS) rfl) ?_
          | (refine ⟨x, rfl, ?_⟩; rintro _ _ ⟨rfl, rfl⟩)
          | (refine ⟨p.1, rfl, ?_⟩; rintro _ _ ⟨rfl, rfl⟩))
        refine br2 (fun h9 => ?_) (fun h9 => ?_)
        · conv => whnf
          refine backJ true j [(400, 400), (368, 368), (112, 112)] kn' (f2.yes hj h8' h9) ?_
          exact ⟨rfl, ⟨hincJ, rfl, rfl, rfl, rfl, rfl, rfl, rfl, rfl, rfl, trivial⟩, rfl, rfl, rfl, trivial⟩
        · conv => whnf
          refine backJ true a [(400, 400), (368, 368), (112, 112)] kn' (f2.no hj (.inr h9)) ?_
          exact ⟨rfl, ⟨hincJ, rfl, rfl, rfl, rfl, rfl, rfl, rfl, rfl, rfl, trivial⟩, rfl, rfl, rfl, trivial⟩
      · have h8' : a ≤ j := by have := of_decide_eq_false h8; omega
        conv => whnf
        repeat ((first | refine rc_i rfl ?_ | refine rc_i (fun _ => rfl) ?_); conv => whnf)
        refine backJ true a [(400, 400), (368, 368), (112, 112)] kn' (f2.no hj (.inl h8')) ?_
        exact ⟨rfl, ⟨hincJ, rfl, rfl, rfl, rfl, rfl, rfl, rfl, rfl, rfl, trivial⟩, rfl, rfl, rfl, trivial⟩
    · have h7' : p.1 ≠ x := fun e => by
        replace h7 : txEq p.1 x = false := h7
        rw [txEq_iff.2 e] at h7; cases h7
      have kn' : (kn = true ↔ ok = false ∨ ∃ p ∈ P.take (j + 1), p.1 = x) := by
        rw [f1, List.take_add_one, hj]
        refine or_congr_right ⟨fun ⟨q, hq, e⟩ => ⟨q, by simp [hq], e⟩, fun ⟨q, hq, e⟩ => ?_⟩
        rcases List.mem_append.1 hq with hq | hq
        · exact ⟨q, hq, e⟩
        · simp at hq; subst hq; exact absurd e h7'
      conv => whnf
      refine br2 (fun h8 => ?_) (fun h8 => ?_)
      · have h8' : j < a := by have := of_decide_eq_true h8; omega
        repeat' ((conv => whnf); first
          | refine rc_i rfl ?_
          | refine rc_i (fun _ => rfl) ?_
          | refine ⟨(ixE ejj hjS).1, (ixE ejj hjS).2, ?_⟩
          | refine ex2 _ (nthE ejj hjS) ?_
          | refine rc_i ⟨(ixE ejj hjS).1, (ixE ejj hjS).2, rfl⟩ ?_
          | refine rc_i (ex2 _ (nthE ejj hjS) rfl) ?_
          | (refine ⟨x, rfl, ?_⟩; rintro _ _ ⟨rfl, rfl⟩)
          | (refine ⟨p.1, rfl, ?_⟩; rintro _ _ ⟨rfl, rfl⟩))
        refine br2 (fun h9 => ?_) (fun h9 => ?_)
        · conv => whnf
          refine backJ kn j [(400, 400), (368, 368), (112, 112)] kn' (f2.yes hj h8' h9) ?_
          exact ⟨rfl, ⟨hincJ, rfl, rfl, rfl, rfl, rfl, rfl, rfl, rfl, rfl, trivial⟩, rfl, rfl, rfl, trivial⟩
        · conv => whnf
          refine backJ kn a [(400, 400), (368, 368), (112, 112)] kn' (f2.no hj (.inr h9)) ?_
          exact ⟨rfl, ⟨hincJ, rfl, rfl, rfl, rfl, rfl, rfl, rfl, rfl, rfl, trivial⟩, rfl, rfl, rfl, trivial⟩
      · have h8' : a ≤ j := by have := of_decide_eq_false h8; omega
        conv => whnf
        repeat ((first | refine rc_i rfl ?_ | refine rc_i (fun _ => rfl) ?_); conv => whnf)
        refine backJ kn a [(400, 400), (368, 368), (112, 112)] kn' (f2.no hj (.inl h8')) ?_
        exact ⟨rfl, ⟨hincJ, rfl, rfl, rfl, rfl, rfl, rfl, rfl, rfl, rfl, trivial⟩, rfl, rfl, rfl, trivial⟩
  have hjl : j = P.length := by
    have h9 : ¬ (j : Int) < (((P.map some).length : Nat) : Int) := of_decide_eq_false h6
    rw [List.length_map] at h9; omega
  conv => whnf
  exact hE hjl _
end
end Go.Vm
