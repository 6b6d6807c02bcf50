/- Contracts: how full and how deep a tree is; a tree read out of its nodes, as the specification does it. -/
import Derived.Test.YtlbeppaimfpchaaKa
namespace Go.Vm
open Go.Proofs
set_option maxRecDepth 100000
set_option linter.unusedVariables false
set_option linter.unusedSimpArgs false

theorem Lev.deep : ∀ {d : Nat} {x : Tw}, Lev d x → x.deep = d := by
  intro d x h
  induction h with
  | leaf => simp [Tw.deep, Tw.deeps]
  | node h1 h3 ih =>
    rename_i d ps ks
    have key : ∀ l : List Tw, l ≠ [] → (∀ k ∈ l, k.deep = d) → Tw.deeps l = d := by
      intro l
      induction l with
      | nil => intro h; exact absurd rfl h
      | cons k l ihl =>
        intro _ hk
        have h4 := hk k (by simp)
        simp only [Tw.deeps]
        cases l with
        | nil => simp [Tw.deeps, h4]
        | cons q r =>
          have := ihl (by simp) (fun z hz => hk z (by simp [hz]))
          rw [this, h4]; simp
    simp only [Tw.deep]
    rw [key ks h1 ih]; omega
structure SubX where
  n : Nat
  x : Tw
  hd : x.deep ≤ n
  hn : n ≤ 1000
def cSDeep : Con := relC SubX [(.rd, true)] [false] (fun t => [subE t.n t.x]) (fun t r => ∃ v : Int, r = [[.lf (.int .i64 v)]] ∧ v ≤ t.x.deep ∧ (0 ≤ v → Lev t.x.deep t.x ∧ v = t.x.deep) ∧ (v < 0 → ∀ d, ¬ Lev d t.x))
theorem mk_deep {ps : List RngX} {ks : List Tw} : (Tw.mk ps ks).deep = 1 + Tw.deeps ks := rfl
theorem ev_sDeep : ∀ n x, (fun t => t.x.deep) x = n → evFnX tab [(136, cSDeep.below (fun t => t.x.deep) n)] cSDeep Try.f136 (body Try.f136) x := by
  rintro M ⟨n, ⟨ps, ks⟩, hd, hn⟩ rfl
  replace hd : 1 + Tw.deeps ks ≤ n := hd
  obtain ⟨n, rfl⟩ : ∃ m, n = m + 1 := ⟨n - 1, by omega⟩
  conv => whnf
  refine br2 (fun h1 => ?_) (fun h1 => ?_)
  · obtain rfl : ks = [] := by cases ks with | nil => rfl | cons k r => cases h1
    conv => whnf
    exact ⟨⟨rfl, 1, rfl, by show (1 : Int) ≤ ((1 + 0 : Nat) : Int); omega, fun _ => ⟨.leaf, rfl⟩, fun h => by omega⟩⟩
  have hne : ks ≠ [] := by rintro rfl; cases h1
  have hlen : 0 < ks.length := List.length_pos_iff.2 hne
  conv => whnf
  intro hkl
  replace hkl : ks.length ≤ 9223372036854775807 := hkl
  conv => whnf
  let S0 : Nat → Nat → Sl := fun i dd => [(11, .lf (.int .i64 i)), (10, .lf (.int .i64 ks.length)), (1, .pt 16 0 0), (3, .lf (.int .i64 dd))]
  let H0 : Hp := [(16, some (.arr true 3 [[.lf (.bool ks.isEmpty), .sl 0 none, .sl 1 none]])), (0, some (.row .lent 2 RngX.ds ps)), (1, some (.row .lent 3 (subE n) ks))]
  refine ⟨fun m s h => ∃ i dd : Nat, i ≤ ks.length ∧ dd ≤ 1000 ∧ (i = 0 → dd = 0) ∧ (0 < i → ∃ e, dd = e + 1 ∧ ∀ k ∈ ks.take i, Lev e k) ∧ m = ks.length - i ∧ s = S0 i dd ∧ h = H0, ks.length, [(16, 16), (0, 0), (1, 1)], S0 0 0, H0,
    ⟨rfl, ⟨rfl, rfl, rfl, rfl, trivial⟩, rfl, rfl, rfl, trivial⟩, ⟨0, 0, by omega, by omega, fun _ => rfl, fun h => absurd h (by omega), rfl, rfl, rfl⟩, ?_⟩
  rintro m _ _ ⟨i, dd, g1, g2, g3, g4, rfl, rfl, rfl⟩
  conv => whnf
  refine br2 (fun h5 => ?_) (fun h5 => ?_)
  · have hi : i < ks.length := by have := of_decide_eq_true h5; omega
    obtain ⟨k, hk⟩ := getL hi
    have hkm := List.mem_of_getElem? hk
    have hkd := deeps_mem hkm
    have hkp := k.deep_pos
    have no : (∀ e, Lev e k → 0 < i → ∀ q ∈ ks.take i, Lev e q → False) → (0 < i ∨ ∀ e, ¬ Lev e k) → ∀ d, ¬ Lev d (.mk ps ks) := by
      intro a b d hl
      cases hl with
      | leaf => exact hne rfl
      | node q1 q3 =>
        rcases b with b | b
        · obtain ⟨q, hq⟩ := getL (l := ks) (j := 0) hlen
          have : q ∈ ks.take i := by
            have : (ks.take i)[0]? = some q := by rw [List.getElem?_take, if_pos b]; exact hq
            exact List.mem_of_getElem? this
          exact a _ (q3 k hkm) b q this (q3 q (List.mem_of_getElem? hq))
        · exact b _ (q3 k hkm)
    obtain ⟨us, is⟩ := k
    replace hkd : (Tw.mk us is).deep ≤ n := by omega
    obtain ⟨n', rfl⟩ : ∃ q, n = q + 1 := ⟨n - 1, by omega⟩
    conv => whnf
    refine ⟨Int.natCast_nonneg _, ltI hk, ?_⟩
    conv => whnf
    refine ex2 _ (nthI hk) ?_
    conv => whnf
    refine ⟨⟨⟨n' + 1, .mk us is, hkd, by omega⟩, by show (Tw.mk us is).deep < 1 + Tw.deeps ks; have := deeps_mem hkm; omega⟩, rfl, ?_⟩
    rintro _ _ ⟨rfl, v, rfl, v1, v2, v3⟩
    replace v1 : v ≤ ((Tw.mk us is).deep : Int) := v1
    replace v2 : 0 ≤ v → Lev (Tw.mk us is).deep (Tw.mk us is) ∧ v = (Tw.mk us is).deep := v2
    replace v3 : v < 0 → ∀ d, ¬ Lev d (Tw.mk us is) := v3
    have bad : ∀ {d : Nat}, (∀ e, ¬ Lev e (Tw.mk ps ks)) → ∃ w : Int, [[D.lf (.int .i64 (-1))]] = [[D.lf (.int .i64 w)]] ∧ w ≤ ((Tw.mk ps ks).deep : Int) ∧ (0 ≤ w → Lev (Tw.mk ps ks).deep (Tw.mk ps ks) ∧ w = ((Tw.mk ps ks).deep : Int)) ∧ (w < 0 → ∀ d, ¬ Lev d (Tw.mk ps ks)) := fun h =>
      ⟨-1, rfl, by omega, fun h => by omega, fun _ => h⟩
    conv => whnf
    refine br2 (fun h6 => ?_) (fun h6 => ?_)
    · have h6' : v < 0 := of_decide_eq_true h6
      conv => whnf
      exact ⟨⟨rfl, bad (d := 0) (no (fun e h => absurd h (v3 h6' e)) (.inr (v3 h6')))⟩⟩
    have h6' : 0 ≤ v := by have h7 : ¬ v < 0 := of_decide_eq_false h6; omega
    obtain ⟨hlv, rfl⟩ := v2 h6'
    have hwd : IntKind.i64.wrap (((Tw.mk us is).deep : Int) + 1) = (((Tw.mk us is).deep + 1 : Nat) : Int) := by rw [w64 (by omega) (by omega)]; omega
    have step : ∀ {s' : Sl} {h' : Hp}, (∀ q ∈ ks.take i, Lev (Tw.mk us is).deep q) → Le [(16, 16), (0, 0), (1, 1)] (S0 (i + 1) ((Tw.mk us is).deep + 1)) H0 s' h' →
        ∃ m' ρ s'' h'', m' < ks.length - i ∧ Le ρ s'' h'' s' h' ∧ ∃ i dd : Nat, i ≤ ks.length ∧ dd ≤ 1000 ∧ (i = 0 → dd = 0) ∧ (0 < i → ∃ e, dd = e + 1 ∧ ∀ k ∈ ks.take i, Lev e k) ∧ m' = ks.length - i ∧ s'' = S0 i dd ∧ h'' = H0 := fun h hle =>
      ⟨ks.length - (i + 1), _, _, _, by omega, hle, i + 1, (Tw.mk us is).deep + 1, by omega, by omega, fun h => by omega, fun _ => ⟨_, rfl, fun q hq => by
        rw [List.take_add_one, hk] at hq
        rcases List.mem_append.1 hq with hq | hq
        · exact h q hq
        · simp at hq; subst hq; exact hlv⟩, rfl, rfl, rfl⟩
    have hw := incI hi hkl
    have hl1 : Le [(16, 16), (0, 0), (1, 1)] (S0 (i + 1) ((Tw.mk us is).deep + 1)) H0 (S0 (i + 1) ((Tw.mk us is).deep + 1)) H0 := ⟨rfl, ⟨rfl, rfl, rfl, rfl, trivial⟩, rfl, rfl, rfl, trivial⟩
    conv => whnf
    refine br2 (fun h7 => ?_) (fun h7 => ?_)
    · have h7' : 0 < i := by have := of_decide_eq_true h7; omega
      obtain ⟨e, rfl, g4'⟩ := g4 h7'
      conv => whnf
      refine br2 (fun h8 => ?_) (fun h8 => ?_)
      · have h8' : (Tw.mk us is).deep ≠ e := by
          replace h8 : (IntKind.i64.wrap (((Tw.mk us is).deep : Int) + 1) != ((e + 1 : Nat) : Int)) = true := h8
          rw [hwd] at h8
          simp at h8; omega
        conv => whnf
        refine ⟨⟨rfl, bad (d := 0) (no (fun e' h1 _ q hq h2 => ?_) (.inl h7'))⟩⟩
        have a1 := h1.deep
        have a2 := (g4' q hq).deep
        have a3 := h2.deep
        omega
      · have h8' : (Tw.mk us is).deep = e := by
          replace h8 : (IntKind.i64.wrap (((Tw.mk us is).deep : Int) + 1) != ((e + 1 : Nat) : Int)) = false := h8
          rw [hwd] at h8
          simp at h8; omega
        conv => whnf
        refine step (by rw [h8']; exact g4') ⟨rfl, ⟨hw, rfl, rfl, ?_, trivial⟩, rfl, rfl, rfl, trivial⟩
        show V.lf (.int .i64 (IntKind.i64.wrap (((Tw.mk us is).deep : Int) + 1))) = _
        rw [hwd]
    · have h7' : i = 0 := by have := of_decide_eq_false h7; omega
      subst h7'
      conv => whnf
      refine step (fun q hq => by simp at hq) ⟨rfl, ⟨hw, rfl, rfl, ?_, trivial⟩, rfl, rfl, rfl, trivial⟩
      show V.lf (.int .i64 (IntKind.i64.wrap (((Tw.mk us is).deep : Int) + 1))) = _
      rw [hwd]
  · have hi : i = ks.length := by have := of_decide_eq_false h5; omega
    subst hi
    obtain ⟨e, rfl, g5⟩ := g4 hlen
    rw [List.take_length] at g5
    have hL : Lev (e + 1) (.mk ps ks) := .node hne g5
    have hdp := hL.deep
    conv => whnf
    refine ⟨⟨rfl, _, rfl, ?_, fun _ => ⟨?_, ?_⟩, fun h => ?_⟩⟩
    · show ((e + 1 : Nat) : Int) ≤ ((Tw.mk ps ks).deep : Int); rw [hdp]; omega
    · show Lev (Tw.mk ps ks).deep (Tw.mk ps ks); rw [hdp]; exact hL
    · show ((e + 1 : Nat) : Int) = ((Tw.mk ps ks).deep : Int); rw [hdp]
    · omega
theorem sDeep_ok : FnOk Try.prog 136 cSDeep := fn_rec (fun t => t.x.deep) fun n hs x hx => fnX_at tab_ok (SOk.cons hs (SOk.nil)) mixed (fn := Try.f136) (code := body Try.f136) ⟨Try.func136, rfl, by kernel_rfl, by kernel_rfl, by kernel_rfl, by kernel_rfl⟩ (ev_sDeep n x hx)
structure FullX where
  t : SubX
  root : Bool
theorem ev_sFull : ∀ n x, (fun f => f.t.x.deep) x = n → evFnX tab [(135, (pureC FullX [(.rd, true), (.rd, false)] [false] (fun f => [subE f.t.n f.t.x, [.lf (.bool f.root)]]) (fun f => [[.lf (.bool (Tw.full f.root f.t.x))]])).below (fun f => f.t.x.deep) n)] (pureC FullX [(.rd, true), (.rd, false)] [false] (fun f => [subE f.t.n f.t.x, [.lf (.bool f.root)]]) (fun f => [[.lf (.bool (Tw.full f.root f.t.x))]])) Try.f135 (body Try.f135) x := by
  rintro M ⟨⟨n, ⟨ps, ks⟩, hd, hn⟩, root⟩ rfl
  replace hd : 1 + Tw.deeps ks ≤ n := hd
  obtain ⟨n, rfl⟩ : ∃ m, n = m + 1 := ⟨n - 1, by omega⟩
  conv => whnf
  refine br2 (fun h1 => ?_) (fun h1 => ?_)
  · obtain rfl : ks = [] := by cases ks with | nil => rfl | cons k r => cases h1
    have fin : ∀ b : Bool, b = (decide (ps.length ≤ 4) && (decide (2 ≤ ps.length) || root && decide (ps.length = 1))) → [[D.lf (.bool b)]] = [[D.lf (.bool (Tw.full root (.mk ps [])))]] := fun b h => by rw [full_leaf, h]
    conv => whnf
    intro _
    conv => whnf
    refine br2 (fun h2 => ?_) (fun h2 => ?_)
    · have h2' : ps.length ≤ 4 := by
        replace h2 : decide ((ps.length : Int) ≤ 4) = true := h2
        have := of_decide_eq_true h2; omega
      conv => whnf
      intro _
      conv => whnf
      refine br2 (fun h3 => ?_) (fun h3 => ?_)
      · have h3' : 2 ≤ ps.length := by
          replace h3 : decide ((ps.length : Int) ≥ 2) = true := h3
          have := of_decide_eq_true h3; omega
        conv => whnf
        refine ⟨⟨rfl, fin _ ?_⟩⟩
        simp [h2', h3']
      · have h3' : ¬ 2 ≤ ps.length := by
          replace h3 : decide ((ps.length : Int) ≥ 2) = false := h3
          have := of_decide_eq_false h3; omega
        cases root with
        | true =>
          conv => whnf
          intro _
          conv => whnf
          refine ⟨⟨rfl, fin _ ?_⟩⟩
          show ((ps.length : Int) == 1) = _
          simp [h2', h3']
          rw [Bool.eq_iff_iff]; simp; omega
        | false =>
          conv => whnf
          refine ⟨⟨rfl, fin _ ?_⟩⟩
          simp [h2', h3']
    · have h2' : ¬ ps.length ≤ 4 := by
        replace h2 : decide ((ps.length : Int) ≤ 4) = false := h2
        have := of_decide_eq_false h2; omega
      conv => whnf
      refine ⟨⟨rfl, fin _ ?_⟩⟩
      simp [h2']
  have hne : ks ≠ [] := by rintro rfl; cases h1
  have hlen : 0 < ks.length := List.length_pos_iff.2 hne
  have fin : ∀ b : Bool, b = (decide (2 ≤ ks.length) && decide (ks.length ≤ 4) && decide (ps.length = 0) && Tw.fulls ks) → [[D.lf (.bool b)]] = [[D.lf (.bool (Tw.full root (.mk ps ks)))]] := fun b h => by rw [full_node hne, h]
  conv => whnf
  intro hkl
  replace hkl : ks.length ≤ 9223372036854775807 := hkl
  conv => whnf
  refine br2 (fun h2 => ?_) (fun h2 => ?_)
  · have h2' : ¬ 2 ≤ ks.length := by
      replace h2 : decide ((ks.length : Int) < 2) = true := h2
      have := of_decide_eq_true h2; omega
    conv => whnf
    refine ⟨⟨rfl, fin _ ?_⟩⟩
    simp [h2']
  have h2' : 2 ≤ ks.length := by
    replace h2 : decide ((ks.length : Int) < 2) = false := h2
    have := of_decide_eq_false h2; omega
  conv => whnf
  intro _
  conv => whnf
  refine br2 (fun h3 => ?_) (fun h3 => ?_)
  · have h3' : ¬ ks.length ≤ 4 := by
      replace h3 : decide ((ks.length : Int) > 4) = true := h3
      have := of_decide_eq_true h3; omega
    conv => whnf
    refine ⟨⟨rfl, fin _ ?_⟩⟩
    simp [h3']
  have h3' : ks.length ≤ 4 := by
    replace h3 : decide ((ks.length : Int) > 4) = false := h3
    have := of_decide_eq_false h3; omega
  conv => whnf
  intro _
  conv => whnf
  refine br2 (fun h4 => ?_) (fun h4 => ?_)
  · have h4' : ¬ ps.length = 0 := by
      replace h4 : decide ((ps.length : Int) > 0) = true := h4
      have := of_decide_eq_true h4; omega
    conv => whnf
    refine ⟨⟨rfl, fin _ ?_⟩⟩
    simp only [h4', decide_false, Bool.and_false, Bool.false_and]
  have h4' : ps.length = 0 := by
    replace h4 : decide ((ps.length : Int) > 0) = false := h4
    have := of_decide_eq_false h4; omega
  have fin2 : ∀ b : Bool, b = Tw.fulls ks → [[D.lf (.bool b)]] = [[D.lf (.bool (Tw.full root (.mk ps ks)))]] := fun b h => fin b (by simp [h2', h3', h4', h])
  conv => whnf
  intro _
  conv => whnf
  let S0 : Nat → Sl := fun i => [(46, .lf (.int .i64 i)), (45, .lf (.int .i64 ks.length)), (2, .pt 32 0 0)]
  let H0 : Hp := [(32, some (.arr true 3 [[.lf (.bool ks.isEmpty), .sl 0 none, .sl 1 none]])), (0, some (.row .lent 2 RngX.ds ps)), (1, some (.row .lent 3 (subE n) ks))]
  refine ⟨fun m s h => ∃ i : Nat, i ≤ ks.length ∧ (∀ k ∈ ks.take i, Tw.full false k = true) ∧ m = ks.length - i ∧ s = S0 i ∧ h = H0, ks.length, [(32, 32), (0, 0), (1, 1)], S0 0, H0,
    ⟨rfl, ⟨rfl, rfl, rfl, trivial⟩, rfl, rfl, rfl, trivial⟩, ⟨0, by omega, fun k h => by simp at h, rfl, rfl, rfl⟩, ?_⟩
  rintro m _ _ ⟨i, g1, g2, rfl, rfl, rfl⟩
  conv => whnf
  refine br2 (fun h5 => ?_) (fun h5 => ?_)
  · have hi : i < ks.length := by have := of_decide_eq_true h5; omega
    obtain ⟨k, hk⟩ := getL hi
    have hkm := List.mem_of_getElem? hk
    have hkd := deeps_mem hkm
    have hkp := k.deep_pos
    obtain ⟨us, is⟩ := k
    replace hkd : (Tw.mk us is).deep ≤ n := by omega
    obtain ⟨n', rfl⟩ : ∃ q, n = q + 1 := ⟨n - 1, by omega⟩
    conv => whnf
    refine ⟨Int.natCast_nonneg _, ltI hk, ?_⟩
    conv => whnf
    refine ex2 _ (nthI hk) ?_
    conv => whnf
    refine ⟨⟨⟨⟨n' + 1, .mk us is, hkd, by omega⟩, false⟩, by show (Tw.mk us is).deep < 1 + Tw.deeps ks; have := deeps_mem hkm; omega⟩, rfl, ?_⟩
    rintro _ _ ⟨rfl, rfl⟩
    conv => whnf
    refine br2 (fun h6 => ?_) (fun h6 => ?_)
    · have h6' : Tw.full false (.mk us is) = false := by
        replace h6 : (!Tw.full false (.mk us is)) = true := h6
        simpa using h6
      conv => whnf
      refine ⟨⟨rfl, fin2 _ ?_⟩⟩
      cases e : Tw.fulls ks with
      | false => rfl
      | true => rw [fulls_iff.1 e _ hkm] at h6'; cases h6'
    · have h6' : Tw.full false (.mk us is) = true := by
        replace h6 : (!Tw.full false (.mk us is)) = false := h6
        simpa using h6
      conv => whnf
      refine ⟨ks.length - (i + 1), [(32, 32), (0, 0), (1, 1)], S0 (i + 1), H0, by omega, ⟨rfl, ⟨incI hi hkl, rfl, rfl, trivial⟩, rfl, rfl, rfl, trivial⟩, i + 1, by omega, fun q hq => ?_, rfl, rfl, rfl⟩
      rw [List.take_add_one, hk] at hq
      rcases List.mem_append.1 hq with hq | hq
      · exact g2 q hq
      · simp at hq; subst hq; exact h6'
  · have hi : i = ks.length := by have := of_decide_eq_false h5; omega
    subst hi
    rw [List.take_length] at g2
    conv => whnf
    exact ⟨⟨rfl, fin2 _ (fulls_iff.2 g2).symm⟩⟩
theorem sFull_ok : FnOk Try.prog 135 (pureC FullX [(.rd, true), (.rd, false)] [false] (fun f => [subE f.t.n f.t.x, [.lf (.bool f.root)]]) (fun f => [[.lf (.bool (Tw.full f.root f.t.x))]])) := fn_rec (fun f => f.t.x.deep) fun n hs x hx => fnX_at tab_ok (SOk.cons hs (SOk.nil)) mixed (fn := Try.f135) (code := body Try.f135) ⟨Try.func135, rfl, by kernel_rfl, by kernel_rfl, by kernel_rfl, by kernel_rfl⟩ (ev_sFull n x hx)
theorem Tw.len_sizes : ∀ l : List Tw, l.length ≤ Tw.sizes l
  | [] => Nat.le_refl _
  | k :: l => by simp only [Tw.sizes, List.length_cons]; have := Tw.len_sizes l; have := k.size_pos; omega
/-! Reading -/
structure ReadX where
  N : List NodeX
  at_ : Nat
  b : Nat
  deep : Int
  hN : N.length ≤ 1048576
  hp : ∀ n ∈ N, n.ps.length ≤ 1048576
  hb : deep + b = 13
  h0 : 0 ≤ deep
def optS (b : Nat) : Option Tw → List D
  | none => [.lf (.bool false), .row 2 RngX.ds [], .row 3 (subE 0) []]
  | some x => subE b x
structure ReadR (N : List NodeX) (a b : Nat) (o : Option Tw) (next : Int) (ok : Bool) : Prop where
  yes : ok = true → ∃ x, o = some x ∧ Fit false N a x ∧ x.deep ≤ b ∧ next = ((a + x.size : Nat) : Int)
  no : ok = false → o = none ∧ ∀ x, Fit false N a x → ¬ x.deep ≤ b
def cSRead : Con := relC ReadX [(.rd, true), (.rd, false), (.rd, false)] [true, false, false] (fun g => [[.row 3 NodeX.ds g.N], [.lf (.int .i64 g.at_)], [.lf (.int .i64 g.deep)]])
  (fun g r => ∃ o next ok, r = [optS g.b o, [.lf (.int .i64 next)], [.lf (.bool ok)]] ∧ ReadR g.N g.at_ g.b o next ok)
structure SubsTo (N : List NodeX) (a b : Nat) (n : NodeX) (l : List Tw) : Prop where
  fit : FitK false N (a + 1) l
  kids : n.kids.take l.length = kidsAt l (a + 1)
  deep : ∀ k ∈ l, k.deep ≤ b
theorem SubsTo.snoc {N : List NodeX} {a b : Nat} {n : NodeX} {l : List Tw} {k : Tw} (h : SubsTo N a b n l) (hk : n.kids[l.length]? = some (((a + 1 + Tw.sizes l : Nat)) : Int)) (hf : Fit false N (a + 1 + Tw.sizes l) k) (hd : k.deep ≤ b) : SubsTo N a b n (l ++ [k]) := by
  refine ⟨fitK_app.2 ⟨h.fit, fitK_one.2 hf⟩, ?_, fun q hq => ?_⟩
  · rw [List.length_append, List.length_singleton, List.take_add_one, h.kids, hk, kidsAt_app]; rfl
  · rcases List.mem_append.1 hq with hq | hq
    · exact h.deep q hq
    · simp at hq; subst hq; exact hd
theorem SubsTo.next {N : List NodeX} {a b : Nat} {n : NodeX} {l : List Tw} (h : SubsTo N a b n l) (hn : N[a]? = some n) (hl : l.length < n.kids.length) {x : Tw} (hf : Fit false N a x) (hd : x.deep ≤ b + 1) :
    ∃ k, n.kids[l.length]? = some ((a + 1 + Tw.sizes l : Nat) : Int) ∧ Fit false N (a + 1 + Tw.sizes l) k ∧ k.deep ≤ b := by
  obtain ⟨ps, ks⟩ := x
  simp only [Fit] at hf
  obtain ⟨⟨n', e1, e2, e3, e4⟩, h2⟩ := hf
  rw [hn] at e1; cases e1
  have hlen : n.kids.length = ks.length := by rw [e3, kidsAt_len]
  have hfr := h.fit.front h2 (by omega)
  obtain ⟨k, hk⟩ := getL (l := ks) (j := l.length) (by omega)
  have hkf := h2.get hk
  rw [← hfr] at hkf
  have := deeps_mem (List.mem_of_getElem? hk)
  rw [mk_deep] at hd
  exact ⟨k, by rw [e3, kidsAt_get _ _ _ (by omega), ← hfr], hkf, by omega⟩
theorem ev_sRead : ∀ n x, (fun g => g.b) x = n → evFnX tab [(185, cSRead.below (fun g => g.b) n), (1000006, cGh)] cSRead Try.f185 (body Try.f185) x := by
  rintro M ⟨N, a, b, deep, hN, hp, hb, h00⟩ rfl
  replace hN : N.length ≤ 1048576 := hN
  replace hp : ∀ n ∈ N, n.ps.length ≤ 1048576 := hp
  replace hb : deep + b = 13 := hb
  replace h00 : 0 ≤ deep := h00
  have zero : ∀ {P : Prop}, ReadR N a b none 0 false → P → P := fun _ h => h
  conv => whnf
  intro _
  conv => whnf
  have none0 : ∀ {P : Prop}, P → P := fun h => h
  refine br2 (fun h1 => ?_) (fun h1 => ?_)
  · have h1' : N.length ≤ a := by
      replace h1 : decide ((a : Int) ≥ (N.length : Int)) = true := h1
      have := of_decide_eq_true h1; omega
    conv => whnf
    refine ⟨2, RngX, RngX.ds, fun _ => rfl, ?_⟩
    conv => whnf
    refine ⟨3, Tw, subE 0, subE_len 0, ?_⟩
    conv => whnf
    refine ⟨⟨rfl, none, _, _, rfl, fun h => (by cases h), fun _ => ⟨rfl, fun x hf _ => ?_⟩⟩⟩
    have h3 : a + x.size ≤ N.length := hf.le
    have := x.size_pos
    omega
  have h1' : a < N.length := by
    replace h1 : decide ((a : Int) ≥ (N.length : Int)) = false := h1
    have := of_decide_eq_false h1; omega
  conv => whnf
  refine br2 (fun h2 => ?_) (fun h2 => ?_)
  · have h2' : 12 < deep := of_decide_eq_true h2
    conv => whnf
    refine ⟨2, RngX, RngX.ds, fun _ => rfl, ?_⟩
    conv => whnf
    refine ⟨3, Tw, subE 0, subE_len 0, ?_⟩
    conv => whnf
    refine ⟨⟨rfl, none, _, _, rfl, fun h => (by cases h), fun _ => ⟨rfl, fun x _ hd => ?_⟩⟩⟩
    have := x.deep_pos
    replace hd : x.deep ≤ b := hd
    omega
  have h2' : deep ≤ 12 := by
    have h3 : ¬ deep > 12 := of_decide_eq_false h2
    omega
  obtain ⟨b, rfl⟩ : ∃ q, b = q + 1 := ⟨b - 1, by omega⟩
  obtain ⟨⟨ps, keys, kids⟩, hn⟩ := getL h1'
  have hps : ps.length ≤ 1048576 := hp _ (List.mem_of_getElem? hn)
  conv => whnf
  refine ⟨Int.natCast_nonneg _, ltI hn, ?_⟩
  conv => whnf
  refine ex2 _ (nthI hn) ?_
  conv => whnf
  intro hkl
  replace hkl : kids.length ≤ 9223372036854775807 := hkl
  conv => whnf
  repeat ((first | refine rc_i rfl ?_ | refine rc_i (fun _ => rfl) ?_); conv => whnf)
  refine ⟨true, ?_⟩
  conv => whnf
  refine ⟨RngX, RngX.ds, [], fun _ => rfl, rfl, ?_⟩
  conv => whnf
  refine ⟨fun _ => rfl, ps, rfl, ?_, ?_⟩
  · show 0 + ps.length ≤ 4294967296; omega
  conv => whnf
  repeat ((first | refine rc_i rfl ?_ | refine rc_i (fun _ => rfl) ?_); conv => whnf)
  refine ⟨[.nlc 160 0 2 1000], ?_⟩
  conv => whnf
  refine ⟨3, Tw, subE b, subE_len b, ?_⟩
  conv => whnf
  intro _
  conv => whnf
  have hw : IntKind.i64.wrap ((a : Int) + 1) = ((a + 1 : Nat) : Int) := by rw [w64 (by omega) (by omega)]; omega
  have hwd : IntKind.i64.wrap (deep + 1) = deep + 1 := w64 (by omega) (by omega)
  let S0 : Nat → Nat → Sl := fun i nx => [(50, .lf (.int .i64 i)), (49, .lf (.int .i64 kids.length)), (48, .sl 562 none), (11, .lf (.int .i64 nx)), (10, .pt 160 0 0), (3, .pt 48 0 0), (6, .pt 96 0 0), (2, .lf (.int .i64 deep))]
  let H0 : List Tw → Hp := fun l => [(562, some (.row .lent 1 intE1 kids)), (160, some (.arr true 3 [[.lf (.bool ((kids.length : Int) == 0)), .sl 688 none, .sl 16000 none]])), (688, some (.row .own 2 RngX.ds ps)), (16000, some (.row .own 3 (subE b) l)),
    (48, some (.arr true 1 [[.sl 0 none]])), (0, some (.row .lent 3 NodeX.ds N)), (96, some (.arr true 3 [[.lf (.bool false), .lf (.slice none 0 0), .lf (.slice none 0 0)]]))]
  refine ⟨fun m s h => ∃ l : List Tw, l.length ≤ kids.length ∧ SubsTo N a b ⟨ps, keys, kids⟩ l ∧ m = kids.length - l.length ∧ s = S0 l.length (a + 1 + Tw.sizes l) ∧ h = H0 l, kids.length, [(562, 562), (160, 160), (688, 688), (16000, 16000), (48, 48), (0, 0), (96, 96)], S0 0 (a + 1), H0 [],
    ⟨rfl, ⟨rfl, rfl, rfl, ?_, rfl, rfl, rfl, rfl, trivial⟩, rfl, rfl, rfl, rfl, rfl, rfl, rfl, trivial⟩, ⟨[], Nat.zero_le _, ⟨trivial, rfl, fun k h => by simp at h⟩, rfl, rfl, rfl⟩, ?_⟩
  · show V.lf (.int .i64 (IntKind.i64.wrap ((a : Int) + 1))) = _
    rw [hw]
  rintro m _ _ ⟨l, g1, hK, rfl, rfl, rfl⟩
  conv => whnf
  refine br2 (fun h6 => ?_) (fun h6 => ?_)
  · have hi : l.length < kids.length := by have := of_decide_eq_true h6; omega
    obtain ⟨c, hc⟩ := getL hi
    have hfit : a + 1 + Tw.sizes l ≤ N.length := FitK.le l (a + 1) hK.fit (by omega)
    have fail : (∀ k, c = ((a + 1 + Tw.sizes l : Nat) : Int) → Fit false N (a + 1 + Tw.sizes l) k → k.deep ≤ b → False) → ReadR N a (b + 1) none 0 false := by
      intro hb
      refine ⟨fun h => (by cases h), fun _ => ⟨rfl, fun x hf hd => ?_⟩⟩
      obtain ⟨k, k1, k2, k3⟩ := hK.next hn hi hf hd
      replace k1 : kids[l.length]? = some ((a + 1 + Tw.sizes l : Nat) : Int) := k1
      rw [hc] at k1
      exact hb k (Option.some.inj k1) k2 k3
    conv => whnf
    refine ⟨Int.natCast_nonneg _, ltI hc, ?_⟩
    conv => whnf
    refine ex2 _ (nthI hc) ?_
    conv => whnf
    refine br2 (fun h7 => ?_) (fun h7 => ?_)
    · have h7' : c ≠ ((a + 1 + Tw.sizes l : Nat) : Int) := by
        replace h7 : (c != ((a + 1 + Tw.sizes l : Nat) : Int)) = true := h7
        simpa using h7
      conv => whnf
      refine ⟨2, RngX, RngX.ds, fun _ => rfl, ?_⟩
      conv => whnf
      refine ⟨3, Tw, subE 0, subE_len 0, ?_⟩
      conv => whnf
      exact ⟨⟨rfl, none, _, _, rfl, fail fun k h _ _ => h7' h⟩⟩
    have h7' : c = ((a + 1 + Tw.sizes l : Nat) : Int) := by
      replace h7 : (c != ((a + 1 + Tw.sizes l : Nat) : Int)) = false := h7
      simpa using h7
    subst h7'
    generalize hnx : a + 1 + Tw.sizes l = nx at *
    conv => whnf
    refine ⟨⟨⟨N, nx, b, IntKind.i64.wrap (deep + 1), hN, hp, by rw [hwd]; omega, by rw [hwd]; omega⟩, Nat.lt_succ_self b⟩, rfl, ?_⟩
    rintro _ _ ⟨rfl, o, next, ok, rfl, rr⟩
    replace rr : ReadR N nx b o next ok := rr
    cases ok with
    | false =>
      obtain ⟨rfl, rno⟩ := rr.no rfl
      conv => whnf
      refine ⟨2, RngX, RngX.ds, fun _ => rfl, ?_⟩
      conv => whnf
      refine ⟨3, Tw, subE 0, subE_len 0, ?_⟩
      conv => whnf
      exact ⟨⟨rfl, none, _, _, rfl, fail fun k _ k2 k3 => rno k k2 k3⟩⟩
    | true =>
    obtain ⟨⟨us, is⟩, rfl, hxf, hd, rfl⟩ := rr.yes rfl
    have hdp := (Tw.mk us is).deep_pos
    obtain ⟨b, rfl⟩ : ∃ q, b = q + 1 := ⟨b - 1, by omega⟩
    have hsz : a + 1 + Tw.sizes (l ++ [.mk us is]) = nx + (Tw.mk us is).size := by rw [Tw.sizes_app, ← hnx]; simp [Tw.sizes]; omega
    conv => whnf
    refine ⟨[.mk us is], rfl, ?_, ?_⟩
    · show l.length + 1 ≤ 4294967296
      have := Tw.len_sizes l
      omega
    conv => whnf
    refine ⟨kids.length - (l.length + 1), [(562, 562), (160, 160), (688, 688), (1184, 16000), (48, 48), (0, 0), (96, 96)], S0 (l.length + 1) (nx + (Tw.mk us is).size), H0 (l ++ [.mk us is]), by omega,
      ⟨rfl, ⟨incI hi hkl, rfl, rfl, rfl, rfl, rfl, rfl, rfl, trivial⟩, by rfl, by rfl, by rfl, by rfl, by rfl, by rfl, by rfl, trivial⟩, l ++ [.mk us is], by simp; omega, hK.snoc (by rw [hnx]; exact hc) (by rw [hnx]; exact hxf) hd, by simp, by rw [hsz]; simp, rfl⟩
  · have hi : l.length = kids.length := by have := of_decide_eq_false h6; omega
    have hfitl : Fit false N a (.mk ps l) := by
      simp only [Fit]
      refine ⟨⟨_, hn, rfl, ?_, fun h => by cases h⟩, hK.fit⟩
      have := hK.kids
      rw [hi, List.take_length] at this
      exact this
    have hdl : (Tw.mk ps l).deep ≤ b + 1 := by
      rw [mk_deep]
      have : ∀ q : List Tw, (∀ k ∈ q, k.deep ≤ b) → Tw.deeps q ≤ b := by
        intro q
        induction q with
        | nil => intro _; exact Nat.zero_le _
        | cons k q ih =>
          intro h
          simp only [Tw.deeps]
          have := h k (by simp)
          have := ih fun z hz => h z (by simp [hz])
          omega
      have := this l hK.deep
      omega
    conv => whnf
    refine ⟨⟨rfl, some (.mk ps l), ((a + 1 + Tw.sizes l : Nat) : Int), true, ?_, ⟨fun _ => ⟨.mk ps l, rfl, hfitl, hdl, ?_⟩, fun h => (by cases h)⟩⟩⟩
    · show [[D.lf (.bool ((kids.length : Int) == 0)), .row 2 RngX.ds ps, .row 3 (subE b) l], _, _] = [[D.lf (.bool l.isEmpty), .row 2 RngX.ds ps, .row 3 (subE b) l], _, _]
      have : ((kids.length : Int) == 0) = l.isEmpty := by rw [Bool.eq_iff_iff, List.isEmpty_iff, beq_iff_eq, ← List.length_eq_zero_iff]; omega
      rw [this]
    · simp only [Tw.size]; rw [Nat.add_assoc]
theorem sRead_ok : FnOk Try.prog 185 cSRead := fn_rec (fun g => g.b) fun n hs x hx => fnX_at tab_ok (SOk.cons hs (SOk.cons gh_ok SOk.nil)) mixed (fn := Try.f185) (code := body Try.f185) ⟨Try.func185, rfl, by kernel_rfl, by kernel_rfl, by kernel_rfl, by kernel_rfl⟩ (ev_sRead n x hx)
structure RootS (N : List NodeX) (o : Option Tw) (ok : Bool) : Prop where
  yes : ok = true → N ≠ [] → ∃ x, o = some x ∧ Fit false N 0 x ∧ x.size = N.length ∧ x.deep ≤ 13
  no : ok = false → ∀ x, Fit false N 0 x → x.size = N.length → ¬ x.deep ≤ 13
  emp : N = [] → o = some (.mk [] []) ∧ ok = true
def cSRoot : Con := relC TreeX [(.rd, true)] [true, false] (fun g => [[.row 3 NodeX.ds g.N]]) (fun g r => ∃ o ok, r = [optS 13 o, [.lf (.bool ok)]] ∧ RootS g.N o ok)
theorem ev_sRoot : ∀ x, evFnX tab [(185, cSRead)] cSRoot Try.f131 (body Try.f131) x := by
  rintro ⟨N, f, hf, hN, hp⟩
  replace hN : N.length ≤ 1048576 := hN
  conv => whnf
  intro _
  conv => whnf
  refine br2 (fun h1 => ?_) (fun h1 => ?_)
  · have h1' : N = [] := by
      replace h1 : ((N.length : Int) == 0) = true := h1
      exact List.eq_nil_of_length_eq_zero (by simpa using h1)
    subst h1'
    conv => whnf
    refine ⟨2, RngX, RngX.ds, fun _ => rfl, ?_⟩
    conv => whnf
    refine ⟨3, Tw, subE 12, subE_len 12, ?_⟩
    conv => whnf
    exact ⟨⟨rfl, some (.mk [] []), true, rfl, fun _ h => absurd rfl h, fun h => (by cases h), fun _ => ⟨rfl, rfl⟩⟩⟩
  have h1' : N ≠ [] := by
    replace h1 : ((N.length : Int) == 0) = false := h1
    rintro rfl; simp at h1
  conv => whnf
  refine ⟨⟨N, 0, 13, 0, hN, hp, rfl, by omega⟩, rfl, ?_⟩
  rintro _ _ ⟨rfl, o, next, ok, rfl, rr⟩
  replace rr : ReadR N 0 13 o next ok := rr
  cases ok with
  | false =>
    obtain ⟨rfl, rno⟩ := rr.no rfl
    conv => whnf
    repeat ((first | refine rc_i rfl ?_ | refine rc_i (fun _ => rfl) ?_); conv => whnf)
    exact ⟨⟨rfl, none, false, rfl, fun h => (by cases h), fun _ x hf _ hd => rno x hf hd, fun h => absurd h h1'⟩⟩
  | true =>
    obtain ⟨⟨us, is⟩, rfl, hxf, hd, rfl⟩ := rr.yes rfl
    conv => whnf
    intro _
    conv => whnf
    repeat ((first | refine rc_i rfl ?_ | refine rc_i (fun _ => rfl) ?_); conv => whnf)
    refine ⟨⟨rfl, some (.mk us is), _, rfl, ⟨fun h _ => ⟨_, rfl, hxf, ?_, hd⟩, fun h x hf hs _ => ?_, fun h => absurd h h1'⟩⟩⟩
    · replace h : (((0 + (Tw.mk us is).size : Nat) : Int) == (N.length : Int)) = true := h
      rw [beq_iff_eq] at h
      show (Tw.mk us is).size = N.length
      omega
    · replace h : (((0 + (Tw.mk us is).size : Nat) : Int) == (N.length : Int)) = false := h
      replace hs : x.size = N.length := hs
      rw [Fit.uniq x _ 0 hf hxf] at hs
      rw [beq_eq_false_iff_ne] at h
      omega
theorem sRoot_ok : FnOk Try.prog 131 cSRoot := fnOk_of fun x => fnX_at tab_ok (SOk.cons sRead_ok SOk.nil) mixed (fn := Try.f131) (code := body Try.f131) ⟨Try.func131, rfl, by kernel_rfl, by kernel_rfl, by kernel_rfl, by kernel_rfl⟩ (ev_sRoot x)
end Go.Vm
namespace Go.Vm
open Go.Proofs
set_option maxRecDepth 100000
set_option linter.unusedVariables false
set_option linter.unusedSimpArgs false

def PreEq {α : Type} (l m : List α) (i : Nat) : Prop := ∀ j, j < i → l[j]? = m[j]?
theorem preEq_all {α : Type} {l m : List α} (h : l.length = m.length) (g : PreEq l m l.length) : l = m := by
  apply List.ext_getElem?
  intro j
  rcases Nat.lt_or_ge j l.length with h1 | h1
  · exact g j h1
  · rw [List.getElem?_eq_none h1, List.getElem?_eq_none (by omega)]
theorem PreEq.snoc {α : Type} {l m : List α} {i : Nat} {y : α} (h : PreEq l m i) (hl : l[i]? = some y) (hm : m[i]? = some y) : PreEq l m (i + 1) := fun j hj => by
  rcases Nat.lt_or_ge j i with h1 | h1
  · exact h j h1
  · obtain rfl : j = i := by omega
    rw [hl, hm]
theorem ev_sameNode : ∀ x, evFnX tab [] (cEq NodeX.ds) Try.f138 (body Try.f138) x := by
  rintro ⟨⟨ps, keys, kids⟩, ⟨qs, leys, lids⟩⟩
  have no : (⟨ps, keys, kids⟩ : NodeX) ≠ ⟨qs, leys, lids⟩ → [[D.lf (.bool false)]] = [[D.lf (.bool (eqX (⟨ps, keys, kids⟩ : NodeX) ⟨qs, leys, lids⟩))]] := fun h => by rw [eqX_no.2 h]
  conv => whnf
  intro hl1
  replace hl1 : ps.length ≤ 9223372036854775807 := hl1
  conv => whnf
  intro _
  conv => whnf
  refine br2 (fun h1 => ?_) (fun h1 => ?_)
  · replace h1 : ((ps.length : Int) != (qs.length : Int)) = true := h1
    conv => whnf
    refine ⟨⟨rfl, no ?_⟩⟩
    rintro ⟨⟩; simp at h1
  replace h1 : ((ps.length : Int) != (qs.length : Int)) = false := h1
  have h1' : ps.length = qs.length := by simp at h1; omega
  conv => whnf
  intro hl2
  replace hl2 : keys.length ≤ 9223372036854775807 := hl2
  conv => whnf
  intro _
  conv => whnf
  refine br2 (fun h2 => ?_) (fun h2 => ?_)
  · replace h2 : ((keys.length : Int) != (leys.length : Int)) = true := h2
    conv => whnf
    refine ⟨⟨rfl, no ?_⟩⟩
    rintro ⟨⟩; simp at h2
  replace h2 : ((keys.length : Int) != (leys.length : Int)) = false := h2
  have h2' : keys.length = leys.length := by simp at h2; omega
  conv => whnf
  intro hl3
  replace hl3 : kids.length ≤ 9223372036854775807 := hl3
  conv => whnf
  intro _
  conv => whnf
  refine br2 (fun h3 => ?_) (fun h3 => ?_)
  · replace h3 : ((kids.length : Int) != (lids.length : Int)) = true := h3
    conv => whnf
    refine ⟨⟨rfl, no ?_⟩⟩
    rintro ⟨⟩; simp at h3
  replace h3 : ((kids.length : Int) != (lids.length : Int)) = false := h3
  have h3' : kids.length = lids.length := by simp at h3; omega
  conv => whnf
  intro _
  conv => whnf
  let H0 : Hp := [(32, some (.arr true 3 [[.sl 0 none, .sl 1 none, .sl 2 none]])), (48, some (.arr true 3 [[.sl 16 none, .sl 17 none, .sl 18 none]])), (0, some (.row .lent 2 RngX.ds ps)), (1, some (.row .lent 1 strE1 keys)), (2, some (.row .lent 1 intE1 kids)),
    (16, some (.row .lent 2 RngX.ds qs)), (17, some (.row .lent 1 strE1 leys)), (18, some (.row .lent 1 intE1 lids))]
  let R0 : List (Nat × Nat) := [(32, 32), (48, 48), (0, 0), (1, 1), (2, 2), (16, 16), (17, 17), (18, 18)]
  let S1 : Nat → Sl := fun i => [(36, .lf (.int .i64 i)), (35, .lf (.int .i64 ps.length)), (2, .pt 32 0 0), (3, .pt 48 0 0)]
  refine ⟨fun m s h => ∃ i : Nat, i ≤ ps.length ∧ PreEq ps qs i ∧ m = ps.length - i ∧ s = S1 i ∧ h = H0, ps.length, R0, S1 0, H0, ⟨rfl, ⟨rfl, rfl, rfl, rfl, trivial⟩, rfl, rfl, rfl, rfl, rfl, rfl, rfl, rfl, trivial⟩, ⟨0, by omega, fun j h => by omega, rfl, rfl, rfl⟩, ?_⟩
  rintro m _ _ ⟨i, g1, g2, rfl, rfl, rfl⟩
  conv => whnf
  refine br2 (fun h5 => ?_) (fun h5 => ?_)
  · have hi : i < ps.length := by have := of_decide_eq_true h5; omega
    obtain ⟨y, hy⟩ := getL hi
    obtain ⟨z, hz⟩ := getL (l := qs) (j := i) (by omega)
    conv => whnf
    refine ⟨Int.natCast_nonneg _, ltI hy, ?_⟩
    conv => whnf
    refine ex2 _ (nthI hy) ?_
    conv => whnf
    refine ⟨Int.natCast_nonneg _, ltI hz, ?_⟩
    conv => whnf
    refine ex2 _ (nthI hz) ?_
    conv => whnf
    refine br2 (fun h6 => ?_) (fun h6 => ?_)
    · replace h6 : (!(strEq y.lo z.lo && (strEq y.hi z.hi && true))) = true := h6
      conv => whnf
      refine ⟨⟨rfl, no ?_⟩⟩
      rintro ⟨⟩
      rw [hy] at hz; cases hz
      simp [strEq_refl] at h6
    · replace h6 : (!(strEq y.lo z.lo && (strEq y.hi z.hi && true))) = false := h6
      have e : y = z := by
        simp [strEq_iff] at h6
        obtain ⟨a, b⟩ := y; obtain ⟨c, d⟩ := z
        simp at h6; rw [h6.1, h6.2]
      subst e
      conv => whnf
      exact ⟨ps.length - (i + 1), R0, S1 (i + 1), H0, by omega, ⟨rfl, ⟨incI hi hl1, rfl, rfl, rfl, trivial⟩, rfl, rfl, rfl, rfl, rfl, rfl, rfl, rfl, trivial⟩, i + 1, by omega, g2.snoc hy hz, rfl, rfl, rfl⟩
  have hi : i = ps.length := by have := of_decide_eq_false h5; omega
  subst hi
  obtain rfl := preEq_all h1' g2
  clear g1 g2 h5
  conv => whnf
  intro _
  conv => whnf
  let S2 : Nat → Sl := fun i => [(54, .lf (.int .i64 i)), (53, .lf (.int .i64 keys.length)), (2, .pt 32 0 0), (3, .pt 48 0 0)]
  refine ⟨fun m s h => ∃ i : Nat, i ≤ keys.length ∧ PreEq keys leys i ∧ m = keys.length - i ∧ s = S2 i ∧ h = H0, keys.length, R0, S2 0, H0, ⟨rfl, ⟨rfl, rfl, rfl, rfl, trivial⟩, rfl, rfl, rfl, rfl, rfl, rfl, rfl, rfl, trivial⟩, ⟨0, by omega, fun j h => by omega, rfl, rfl, rfl⟩, ?_⟩
  rintro m _ _ ⟨i, g1, g2, rfl, rfl, rfl⟩
  conv => whnf
  refine br2 (fun h5 => ?_) (fun h5 => ?_)
  · have hi : i < keys.length := by have := of_decide_eq_true h5; omega
    obtain ⟨y, hy⟩ := getL hi
    obtain ⟨z, hz⟩ := getL (l := leys) (j := i) (by omega)
    conv => whnf
    refine ⟨Int.natCast_nonneg _, ltI hy, ?_⟩
    conv => whnf
    refine ex2 _ (nthI hy) ?_
    conv => whnf
    refine ⟨Int.natCast_nonneg _, ltI hz, ?_⟩
    conv => whnf
    refine ex2 _ (nthI hz) ?_
    conv => whnf
    refine br2 (fun h6 => ?_) (fun h6 => ?_)
    · replace h6 : (!strEq y z) = true := h6
      conv => whnf
      refine ⟨⟨rfl, no ?_⟩⟩
      rintro ⟨⟩
      rw [hy] at hz; cases hz
      simp [strEq_refl] at h6
    · replace h6 : (!strEq y z) = false := h6
      have e : y = z := by simpa [strEq_iff] using h6
      subst e
      conv => whnf
      exact ⟨keys.length - (i + 1), R0, S2 (i + 1), H0, by omega, ⟨rfl, ⟨incI hi hl2, rfl, rfl, rfl, trivial⟩, rfl, rfl, rfl, rfl, rfl, rfl, rfl, rfl, trivial⟩, i + 1, by omega, g2.snoc hy hz, rfl, rfl, rfl⟩
  have hi : i = keys.length := by have := of_decide_eq_false h5; omega
  subst hi
  obtain rfl := preEq_all h2' g2
  clear g1 g2 h5
  conv => whnf
  intro _
  conv => whnf
  let S3 : Nat → Sl := fun i => [(72, .lf (.int .i64 i)), (71, .lf (.int .i64 kids.length)), (2, .pt 32 0 0), (3, .pt 48 0 0)]
  refine ⟨fun m s h => ∃ i : Nat, i ≤ kids.length ∧ PreEq kids lids i ∧ m = kids.length - i ∧ s = S3 i ∧ h = H0, kids.length, R0, S3 0, H0, ⟨rfl, ⟨rfl, rfl, rfl, rfl, trivial⟩, rfl, rfl, rfl, rfl, rfl, rfl, rfl, rfl, trivial⟩, ⟨0, by omega, fun j h => by omega, rfl, rfl, rfl⟩, ?_⟩
  rintro m _ _ ⟨i, g1, g2, rfl, rfl, rfl⟩
  conv => whnf
  refine br2 (fun h5 => ?_) (fun h5 => ?_)
  · have hi : i < kids.length := by have := of_decide_eq_true h5; omega
    obtain ⟨y, hy⟩ := getL hi
    obtain ⟨z, hz⟩ := getL (l := lids) (j := i) (by omega)
    conv => whnf
    refine ⟨Int.natCast_nonneg _, ltI hy, ?_⟩
    conv => whnf
    refine ex2 _ (nthI hy) ?_
    conv => whnf
    refine ⟨Int.natCast_nonneg _, ltI hz, ?_⟩
    conv => whnf
    refine ex2 _ (nthI hz) ?_
    conv => whnf
    refine br2 (fun h6 => ?_) (fun h6 => ?_)
    · replace h6 : (y != z) = true := h6
      conv => whnf
      refine ⟨⟨rfl, no ?_⟩⟩
      rintro ⟨⟩
      rw [hy] at hz; cases hz
      simp at h6
    · replace h6 : (y != z) = false := h6
      have e : y = z := by simpa using h6
      subst e
      conv => whnf
      exact ⟨kids.length - (i + 1), R0, S3 (i + 1), H0, by omega, ⟨rfl, ⟨incI hi hl3, rfl, rfl, rfl, trivial⟩, rfl, rfl, rfl, rfl, rfl, rfl, rfl, rfl, trivial⟩, i + 1, by omega, g2.snoc hy hz, rfl, rfl, rfl⟩
  have hi : i = kids.length := by have := of_decide_eq_false h5; omega
  subst hi
  obtain rfl := preEq_all h3' g2
  conv => whnf
  refine ⟨⟨rfl, ?_⟩⟩
  show [[D.lf (.bool true)]] = [[D.lf (.bool (eqX (⟨ps, keys, kids⟩ : NodeX) ⟨ps, keys, kids⟩))]]
  rw [eqX_refl]
theorem sameNode_ok : FnOk Try.prog 138 (cEq NodeX.ds) := fnOk_of fun x => fnX_at tab_ok (SOk.nil) mixed (fn := Try.f138) (code := body Try.f138) ⟨Try.func138, rfl, by kernel_rfl, by kernel_rfl, by kernel_rfl, by kernel_rfl⟩ (ev_sameNode x)
theorem treeP_read {N : List NodeX} (h : TreeP N) (hne : N ≠ []) : ∃ x d, Shp true d x ∧ PairsOkP x.all ∧ N = x.lay 0 ∧ Fit false N 0 x ∧ x.size = N.length ∧ d ≤ 7 ∧ x.deep = d := by
  obtain ⟨o, ho, rfl⟩ := h
  cases o with
  | none => exact absurd rfl hne
  | some x =>
    obtain ⟨d, hd⟩ := ho.shp
    obtain ⟨e1, e2⟩ := fit_all.2 (show x.lay 0 = x.lay 0 from rfl)
    exact ⟨x, d, hd, ho.ok, rfl, e1.noK, e2, hd.deep_le ho.ok.len, hd.deep⟩
theorem ev_sTreeOk : ∀ x, evFnX tab [(1000013, cGh), (1000016, cGh), (131, cSRoot), (135, (pureC FullX [(.rd, true), (.rd, false)] [false] (fun f => [subE f.t.n f.t.x, [.lf (.bool f.root)]]) (fun f => [[.lf (.bool (Tw.full f.root f.t.x))]]))), (136, cSDeep), (132, (pureC PrsS [(.rd, true)] [false] (fun p => [subE p.n p.x]) (fun p => [[.row 2 RngX.ds p.x.all]]))), (60, cPairsOk), (137, cSLay), (138, (cEq NodeX.ds))] cTreeOk Try.f57 (body Try.f57) x := by
  rintro ⟨N, f, hf, hN, hp⟩
  replace hN : N.length ≤ 1048576 := hN
  conv => whnf
  intro _
  conv => whnf
  refine br2 (fun h1 => ?_) (fun h1 => ?_)
  · have h1' : N = [] := by
      replace h1 : ((N.length : Int) == 0) = true := h1
      exact List.eq_nil_of_length_eq_zero (by simpa using h1)
    subst h1'
    conv => whnf
    exact ⟨⟨rfl, true, rfl, fun _ => ⟨none, ⟨trivial, by simp [allO], fun p hp => by simp [allO] at hp, by simp [allO, Srt]⟩, rfl⟩, fun _ => rfl⟩⟩
  have h1' : N ≠ [] := by
    replace h1 : ((N.length : Int) == 0) = false := h1
    rintro rfl; simp at h1
  have no : (∀ x d, Shp true d x → PairsOkP x.all → N = x.lay 0 → Fit false N 0 x → x.size = N.length → x.deep ≤ 13 → False) → (false = true ↔ TreeP N) := fun h =>
    ⟨fun e => (by cases e), fun e => by
      obtain ⟨x, d, a1, a2, a3, a4, a5, a6, a7⟩ := treeP_read e h1'
      exact (h x d a1 a2 a3 a4 a5 (by omega)).elim⟩
  conv => whnf
  intro _
  conv => whnf
  refine br2 (fun h2 => ?_) (fun h2 => ?_)
  · replace h2 : decide ((N.length : Int) > 400) = true := h2
    have h2' := of_decide_eq_true h2
    conv => whnf
    refine ⟨⟨rfl, false, rfl, no fun x d a1 a2 a3 a4 a5 _ => ?_⟩⟩
    have := a1.manyR.2.2.1
    have := a2.len
    omega
  replace h2 : decide ((N.length : Int) > 400) = false := h2
  have h2' := of_decide_eq_false h2
  conv => whnf
  refine ⟨⟨N, f, hf, hN, hp⟩, rfl, ?_⟩
  rintro _ _ ⟨rfl, o, ok, rfl, rs⟩
  replace rs : RootS N o ok := rs
  cases ok with
  | false =>
    have rno := rs.no rfl
    have out : false = true ↔ TreeP N := no fun x d _ _ _ a4 a5 a6 => rno x a4 a5 a6
    rcases o with _ | ⟨us, is⟩
    all_goals
      conv => whnf
      exact ⟨⟨rfl, false, rfl, out⟩⟩
  | true =>
  obtain ⟨⟨us, is⟩, rfl, hxf, hsz, hd⟩ := rs.yes rfl h1'
  have uniq : ∀ x, Fit false N 0 x → x = .mk us is := fun x h => Fit.uniq x _ 0 h hxf
  conv => whnf
  refine ⟨⟨⟨13, .mk us is, hd, by omega⟩, true⟩, rfl, ?_⟩
  rintro _ _ ⟨rfl, rfl⟩
  conv => whnf
  refine br2 (fun h3 => ?_) (fun h3 => ?_)
  · have h3' : Tw.full true (.mk us is) = false := by
      replace h3 : (!Tw.full true (.mk us is)) = true := h3
      simpa using h3
    conv => whnf
    refine ⟨⟨rfl, false, rfl, no fun x d a1 _ _ a4 _ _ => ?_⟩⟩
    rw [uniq x a4] at a1
    rw [a1.full.1] at h3'; cases h3'
  have h3' : Tw.full true (.mk us is) = true := by
    replace h3 : (!Tw.full true (.mk us is)) = false := h3
    simpa using h3
  conv => whnf
  refine ⟨⟨13, .mk us is, hd, by omega⟩, rfl, ?_⟩
  rintro _ _ ⟨rfl, v, rfl, v1, v2, v3⟩
  conv => whnf
  replace v2 : 0 ≤ v → Lev (Tw.mk us is).deep (.mk us is) ∧ v = ((Tw.mk us is).deep : Int) := v2
  replace v3 : v < 0 → ∀ d, ¬ Lev d (.mk us is) := v3
  refine br2 (fun h4 => ?_) (fun h4 => ?_)
  · have h4' : v < 0 := of_decide_eq_true h4
    conv => whnf
    refine ⟨⟨rfl, false, rfl, no fun x d a1 _ _ a4 _ _ => ?_⟩⟩
    rw [uniq x a4] at a1
    exact v3 h4' d a1.full.2
  have h4' : 0 ≤ v := by have h5 : ¬ v < 0 := of_decide_eq_false h4; omega
  obtain ⟨hlev, _⟩ := v2 h4'
  have hshp := Shp.of_full hlev h3'
  have hp4 := hshp.pairs4
  conv => whnf
  refine ⟨⟨13, .mk us is, hshp.prs, hd, by show (Tw.mk us is).all.length ≤ 4294967296; omega⟩, rfl, ?_⟩
  rintro _ _ ⟨rfl, rfl⟩
  conv => whnf
  refine ⟨(Tw.mk us is).all, rfl, ?_⟩
  rintro _ _ ⟨rfl, b, rfl, e⟩
  conv => whnf
  replace e : b = true ↔ PairsOkP (Tw.mk us is).all := e
  refine br2 (fun h5 => ?_) (fun h5 => ?_)
  · have h5' : ¬ PairsOkP (Tw.mk us is).all := fun h => by rw [e.2 h] at h5; cases h5
    conv => whnf
    refine ⟨⟨rfl, false, rfl, no fun x d _ a2 _ a4 _ _ => ?_⟩⟩
    rw [uniq x a4] at a2
    exact h5' a2
  have h5' : PairsOkP (Tw.mk us is).all := e.1 (by cases b <;> first | rfl | cases h5)
  conv => whnf
  refine ⟨3, NodeX, NodeX.ds, fun _ => rfl, ?_⟩
  conv => whnf
  refine ⟨⟨⟨13, .mk us is, true, (Tw.mk us is).deep, hshp, hd⟩, [], by show 0 + (Tw.mk us is).size ≤ 4194304; omega⟩, rfl, ?_⟩
  rintro _ _ ⟨rfl, rfl⟩
  conv => whnf
  intro _
  conv => whnf
  intro _
  conv => whnf
  have hA : ((Tw.mk us is).lay 0).length = N.length := by rw [Tw.lay_len]; exact hsz
  generalize hAe : (Tw.mk us is).lay 0 = A at *
  refine br2 (fun h6 => ?_) (fun h6 => ?_)
  · exfalso
    replace h6 : ((A.length : Int) != (N.length : Int)) = true := h6
    rw [hA] at h6; simp at h6
  conv => whnf
  intro _
  conv => whnf
  let S0 : Nat → Sl := fun i => [(48, .lf (.int .i64 i)), (47, .lf (.int .i64 A.length)), (5, .sl 624 none), (1, .pt 16 0 0)]
  let H0 : Hp := [(624, some (.row .own 3 NodeX.ds A)), (16, some (.arr true 1 [[.sl 0 none]])), (0, some (.row .lent 3 NodeX.ds N))]
  refine ⟨fun m s h => ∃ i : Nat, i ≤ A.length ∧ PreEq A N i ∧ m = A.length - i ∧ s = S0 i ∧ h = H0, A.length, [(624, 624), (16, 16), (0, 0)], S0 0, H0, ⟨rfl, ⟨rfl, rfl, rfl, rfl, trivial⟩, rfl, rfl, rfl, trivial⟩, ⟨0, by omega, fun j h => by omega, rfl, rfl, rfl⟩, ?_⟩
  rintro m _ _ ⟨i, g1, g2, rfl, rfl, rfl⟩
  conv => whnf
  refine br2 (fun h7 => ?_) (fun h7 => ?_)
  · have hi : i < A.length := by have := of_decide_eq_true h7; omega
    obtain ⟨y, hy⟩ := getL hi
    obtain ⟨z, hz⟩ := getL (l := N) (j := i) (by omega)
    conv => whnf
    refine ⟨[.foc 624 i 1000], ?_⟩
    conv => whnf
    refine ex2 y (by rw [nth_eq]; exact hy) ?_
    conv => whnf
    refine ⟨Int.natCast_nonneg _, ltI hy, ?_⟩
    conv => whnf
    refine ⟨Int.toNat_natCast i, ?_⟩
    conv => whnf
    refine ⟨Int.natCast_nonneg _, ltI hz, ?_⟩
    conv => whnf
    refine ex2 _ (nthI hz) ?_
    conv => whnf
    refine ⟨(y, z), rfl, ?_⟩
    rintro _ _ ⟨rfl, rfl⟩
    conv => whnf
    repeat ((first | refine rc_i rfl ?_ | refine rc_i (fun _ => rfl) ?_); conv => whnf)
    refine br2 (fun h8 => ?_) (fun h8 => ?_)
    · have h8' : y ≠ z := by
        replace h8 : (!eqX y z) = true := h8
        rw [Bool.not_eq_true', eqX_no] at h8; exact h8
      conv => whnf
      refine ⟨⟨rfl, false, rfl, no fun x d a1 a2 a3 a4 _ _ => ?_⟩⟩
      rw [uniq x a4, hAe] at a3
      rw [a3, hy] at hz
      exact h8' (Option.some.inj hz)
    · have h8' : y = z := by
        replace h8 : (!eqX y z) = false := h8
        rw [Bool.not_eq_false', eqX_iff] at h8; exact h8
      subst h8'
      conv => whnf
      refine ⟨[.unf 624], ?_⟩
      conv => whnf
      refine ⟨y, rfl, ?_⟩
      conv => whnf
      refine ⟨A.length - (i + 1), [(624, 624), (16, 16), (0, 0)], S0 (i + 1), H0, by omega, ⟨rfl, ⟨incI hi (by omega), rfl, rfl, rfl, trivial⟩, ?_, rfl, rfl, trivial⟩, i + 1, by omega, g2.snoc hy hz, rfl, rfl, rfl⟩
      show _ = some (Ob.row Kind.own 3 NodeX.ds A)
      have : A.set i y = A := by
        apply List.ext_getElem?
        intro j
        rw [List.getElem?_set]
        split
        · rename_i e; subst e; exact hy.symm
        · rfl
      show some (Ob.row Kind.own 3 NodeX.ds (A.set i y)) = _
      rw [this]
  · have hi : i = A.length := by have := of_decide_eq_false h7; omega
    subst hi
    have := preEq_all hA g2
    conv => whnf
    exact ⟨⟨rfl, true, rfl, fun _ => ⟨some (.mk us is), ⟨⟨_, hshp⟩, h5'⟩, this.symm.trans hAe.symm⟩, fun _ => rfl⟩⟩
theorem sTreeOk_ok : FnOk Try.prog 57 cTreeOk := fnOk_of fun x => fnX_at tab_ok (SOk.cons gh_ok (SOk.cons gh_ok (SOk.cons sRoot_ok (SOk.cons sFull_ok (SOk.cons sDeep_ok (SOk.cons sPairs_ok (SOk.cons sPairsOk_ok (SOk.cons sLay_ok (SOk.cons sameNode_ok SOk.nil))))))))) mixed (fn := Try.f57) (code := body Try.f57) ⟨Try.func57, rfl, by kernel_rfl, by kernel_rfl, by kernel_rfl, by kernel_rfl⟩ (ev_sTreeOk x)
theorem ev_sTreeAll : ∀ x, evFnX tab [(57, cTreeOk), (131, cSRoot), (132, (pureC PrsS [(.rd, true)] [false] (fun p => [subE p.n p.x]) (fun p => [[.row 2 RngX.ds p.x.all]])))] cTreeAll Try.f54 (body Try.f54) x := by
  rintro ⟨N, f, hf, hN, hp⟩
  replace hN : N.length ≤ 1048576 := hN
  conv => whnf
  refine ⟨⟨N, f, hf, hN, hp⟩, rfl, ?_⟩
  rintro _ _ ⟨rfl, b, rfl, e⟩
  conv => whnf
  replace e : b = true ↔ TreeP N := e
  refine br2 (fun h1 => ?_) (fun h1 => ?_)
  · have h1' : ¬ TreeP N := fun h => by rw [e.2 h] at h1; cases h1
    conv => whnf
    refine ⟨2, RngX, RngX.ds, fun _ => rfl, ?_⟩
    conv => whnf
    exact ⟨⟨rfl, [], rfl, fun o ho e => absurd ⟨o, ho, e⟩ h1', fun _ => rfl⟩⟩
  have h1' : TreeP N := e.1 (by cases b <;> first | rfl | cases h1)
  conv => whnf
  refine ⟨⟨N, f, hf, hN, hp⟩, rfl, ?_⟩
  rintro _ _ ⟨rfl, o, ok, rfl, rs⟩
  replace rs : RootS N o ok := rs
  have fin : ∀ x : Tw, (N = [] → x = .mk [] []) → (N ≠ [] → Fit false N 0 x) → AllR N x.all := by
    intro x g1 g2
    refine ⟨fun o ho e => ?_, fun h => absurd h1' h⟩
    by_cases hne : N = []
    · rw [g1 hne]
      rw [hne] at e
      rw [layO_nil.1 e.symm]; rfl
    · obtain ⟨y, d, a1, a2, a3, a4, a5, a6, a7⟩ := treeP_read h1' hne
      have h2 := Fit.uniq x y 0 (g2 hne) a4
      rw [h2]
      rw [a3] at e
      rw [← layO_inj (o := some y) e]; rfl
  obtain ⟨us, is, rfl, rfl, g1, g2, g3, g4⟩ : ∃ us is, o = some (.mk us is) ∧ ok = true ∧ (N = [] → Tw.mk us is = .mk [] []) ∧ (N ≠ [] → Fit false N 0 (.mk us is)) ∧ (Tw.mk us is).deep ≤ 13 ∧ (Tw.mk us is = .mk [] [] ∨ ∃ b d, Shp b d (.mk us is)) := by
    by_cases hne : N = []
    · obtain ⟨rfl, rfl⟩ := rs.emp hne
      exact ⟨[], [], rfl, rfl, fun _ => rfl, fun h => absurd hne h, by simp [Tw.deep, Tw.deeps], .inl rfl⟩
    · obtain ⟨y, d, a1, a2, a3, a4, a5, a6, a7⟩ := treeP_read h1' hne
      cases ok with
      | false => exact absurd (show y.deep ≤ 13 by omega) (rs.no rfl y a4 a5)
      | true =>
        obtain ⟨x, rfl, b1, b2, b3⟩ := rs.yes rfl hne
        have := Fit.uniq x y 0 b1 a4
        subst this
        obtain ⟨us, is⟩ := x
        exact ⟨us, is, rfl, rfl, fun h => absurd h hne, fun _ => b1, b3, .inr ⟨_, _, a1⟩⟩
  have hlen : (Tw.mk us is).all.length ≤ 4294967296 := by
    obtain ⟨o', ho', e'⟩ := h1'
    rw [(fin _ g1 g2).yes o' ho' e']
    have := ho'.ok.len
    omega
  conv => whnf
  refine ⟨⟨13, .mk us is, prs_of g4, g3, hlen⟩, rfl, ?_⟩
  rintro _ _ ⟨rfl, rfl⟩
  conv => whnf
  exact ⟨⟨rfl, _, rfl, fin _ g1 g2⟩⟩
theorem sTreeAll_ok : FnOk Try.prog 54 cTreeAll := fnOk_of fun x => fnX_at tab_ok (SOk.cons sTreeOk_ok (SOk.cons sRoot_ok (SOk.cons sPairs_ok SOk.nil))) mixed (fn := Try.f54) (code := body Try.f54) ⟨Try.func54, rfl, by kernel_rfl, by kernel_rfl, by kernel_rfl, by kernel_rfl⟩ (ev_sTreeAll x)
end Go.Vm
namespace Go.Vm
open Go.Proofs
set_option maxRecDepth 100000
set_option linter.unusedVariables false
set_option linter.unusedSimpArgs false

/-- A result that is read alone. -/
def keepC (X : Type) (params : List (Mode × Bool)) (res : List Bool) (ins : X → List (List D)) (R : X → List (List D) → Prop) : Con :=
  { X := X, params := params, res := res, resOwn := false, ins := ins, post := fun x outs r => outs = [] ∧ R x r }
/-- A node that may be too large: one or two. -/
def splitT : Tw → List Tw
  | .mk ps [] => two (splitP ps)
  | .mk _ ks => two (splitK ks)
theorem cut3 {α : Type} (l : List α) : (l.drop 3).take ((l.length : Int) - 3).toNat = l.drop 3 := List.take_of_length_le (by rw [List.length_drop]; omega)
theorem subE_node {n : Nat} {ps : List RngX} {ks : List Tw} : subE (n + 1) (.mk ps ks) = [.lf (.bool ks.isEmpty), .row 2 RngX.ds ps, .row 3 (subE n) ks] := rfl
structure SplX where
  n : Nat
  x : Tw
  h : x.ks = [] ∨ x.ps = []
  hl : x.ps.length ≤ 4294967296 ∧ x.ks.length ≤ 4294967296
theorem ev_sSplit : ∀ x, evFnX tab [] (keepC SplX [(.keep, true)] [false] (fun t => [subE (t.n + 1) t.x]) (fun t r => r = [[.row 3 (subE (t.n + 1)) (splitT t.x)]])) Try.f198 (body Try.f198) x := by
  rintro ⟨n, ⟨ps, ks⟩, h, hl1, hl2⟩
  replace h : ks = [] ∨ ps = [] := h
  replace hl1 : ps.length ≤ 4294967296 := hl1
  replace hl2 : ks.length ≤ 4294967296 := hl2
  cases ks with
  | nil =>
    conv => whnf
    intro _
    conv => whnf
    refine br2 (fun h1 => ?_) (fun h1 => ?_)
    · have h1' : 4 < ps.length := by
        replace h1 : decide ((ps.length : Int) > 4) = true := h1
        have := of_decide_eq_true h1; omega
      conv => whnf
      refine ⟨by decide, by decide, (show (3 : Int) ≤ (ps.length : Int) by omega), ?_⟩
      conv => whnf
      refine ⟨by decide, (show (3 : Int) ≤ (ps.length : Int) by omega), Int.le_refl _, ?_⟩
      conv => whnf
      refine ⟨3, Tw, subE n, subE_len n, ?_⟩
      conv => whnf
      refine ⟨3, Tw, subE n, subE_len n, ?_⟩
      conv => whnf
      refine ⟨Tw, subE (n + 1), [.mk (ps.take 3) [], .mk (ps.drop 3) []], subE_len _, ?_, ?_⟩
      · show [[D.lf (.bool true), D.row 2 RngX.ds (ps.take 3), D.row 3 (subE n) []], [D.lf (.bool true), D.row 2 RngX.ds (ps.drop 3), D.row 3 (subE n) []]] = [[D.lf (.bool true), D.row 2 RngX.ds (ps.take 3), D.row 3 (subE n) []], [D.lf (.bool true), D.row 2 RngX.ds ((ps.drop 3).take ((ps.length : Int) - 3).toNat), D.row 3 (subE n) []]]
        rw [cut3]
      conv => whnf
      refine ⟨⟨rfl, ?_⟩⟩
      show [[D.row 3 (subE (n + 1)) _]] = [[D.row 3 (subE (n + 1)) (two (splitP ps))]]
      unfold splitP
      rw [if_neg (by omega)]; rfl
    · have h1' : ps.length ≤ 4 := by
        replace h1 : decide ((ps.length : Int) > 4) = false := h1
        have := of_decide_eq_false h1; omega
      conv => whnf
      intro _
      conv => whnf
      refine ⟨Tw, subE (n + 1), [.mk ps []], subE_len _, rfl, ?_⟩
      conv => whnf
      refine ⟨⟨rfl, ?_⟩⟩
      show [[D.row 3 (subE (n + 1)) _]] = [[D.row 3 (subE (n + 1)) (two (splitP ps))]]
      unfold splitP
      rw [if_pos h1']; rfl
  | cons k ks =>
    obtain rfl : ps = [] := by rcases h with h | h; cases h; exact h
    conv => whnf
    intro _
    conv => whnf
    have hn : (k :: ks).length = ks.length + 1 := rfl
    refine br2 (fun h1 => ?_) (fun h1 => ?_)
    · have h1' : 4 < (k :: ks).length := by
        replace h1 : decide (((k :: ks).length : Int) > 4) = true := h1
        have := of_decide_eq_true h1; omega
      conv => whnf
      refine ⟨by decide, by decide, (show (3 : Int) ≤ ((k :: ks).length : Int) by omega), ?_⟩
      conv => whnf
      refine ⟨by decide, (show (3 : Int) ≤ ((k :: ks).length : Int) by omega), Int.le_refl _, ?_⟩
      conv => whnf
      refine ⟨2, RngX, RngX.ds, fun _ => rfl, ?_⟩
      conv => whnf
      refine ⟨2, RngX, RngX.ds, fun _ => rfl, ?_⟩
      conv => whnf
      refine ⟨Tw, subE (n + 1), [.mk [] ((k :: ks).take 3), .mk [] ((k :: ks).drop 3)], subE_len _, ?_, ?_⟩
      · have e : ((k :: ks).drop 3).isEmpty = false := by
          cases e : (k :: ks).drop 3 with
          | nil => have := congrArg List.length e; rw [List.length_drop] at this; simp at this; omega
          | cons => rfl
        show [[D.lf (.bool false), D.row 2 RngX.ds [], D.row 3 (subE n) ((k :: ks).take 3)], [D.lf (.bool ((k :: ks).drop 3).isEmpty), D.row 2 RngX.ds [], D.row 3 (subE n) ((k :: ks).drop 3)]] = [[D.lf (.bool false), D.row 2 RngX.ds [], D.row 3 (subE n) ((k :: ks).take 3)], [D.lf (.bool false), D.row 2 RngX.ds [], D.row 3 (subE n) (((k :: ks).drop 3).take (((k :: ks).length : Int) - 3).toNat)]]
        rw [cut3, e]
      conv => whnf
      refine ⟨⟨rfl, ?_⟩⟩
      show [[D.row 3 (subE (n + 1)) _]] = [[D.row 3 (subE (n + 1)) (two (splitK (k :: ks)))]]
      unfold splitK
      rw [if_neg (by omega)]; rfl
    · have h1' : (k :: ks).length ≤ 4 := by
        replace h1 : decide (((k :: ks).length : Int) > 4) = false := h1
        have := of_decide_eq_false h1; omega
      conv => whnf
      refine ⟨Tw, subE (n + 1), [.mk [] (k :: ks)], subE_len _, rfl, ?_⟩
      conv => whnf
      refine ⟨⟨rfl, ?_⟩⟩
      show [[D.row 3 (subE (n + 1)) _]] = [[D.row 3 (subE (n + 1)) (two (splitK (k :: ks)))]]
      unfold splitK
      rw [if_pos h1']; rfl
theorem sSplit_ok : FnOk Try.prog 198 (keepC SplX [(.keep, true)] [false] (fun t => [subE (t.n + 1) t.x]) (fun t r => r = [[.row 3 (subE (t.n + 1)) (splitT t.x)]])) := fnOk_of fun x => fnX_at tab_ok (SOk.nil) mixed (fn := Try.f198) (code := body Try.f198) ⟨Try.func198, rfl, by kernel_rfl, by kernel_rfl, by kernel_rfl, by kernel_rfl⟩ (ev_sSplit x)
theorem le_strLt {a b : ByteArray} (h : (strLt a b || strEq a b) = true) : strLt b a = false := by
  rw [Bool.or_eq_true] at h
  rcases h with h | h
  · exact lt_asym h
  · rw [strEq_iff] at h; subst h; exact strLt_irrefl _
theorem nle_strLt {a b : ByteArray} (h : (strLt a b || strEq a b) = false) : strLt b a = true := by
  rw [Bool.or_eq_false_iff] at h
  cases e : strLt b a with
  | true => rfl
  | false =>
    have := strLt_tri h.1 e
    subst this
    rw [strEq_refl] at h; cases h.2
structure WayX where
  n : Nat
  ks : List Tw
  d : Nat
  h : ∀ k ∈ ks, Shp false d k
  hn : d ≤ n
  h4 : ks.length ≤ 4
  h1 : 1 ≤ ks.length
  key : ByteArray
def cWay : Con := relC WayX [(.rd, true), (.rd, false)] [false] (fun t => [subE (t.n + 1) (.mk [] t.ks), [.lf (.string t.key)]]) (fun t r => ∃ i : Nat, r = [[.lf (.int .i64 i)]] ∧ Way t.ks t.key i)
theorem ev_sWay : ∀ x, evFnX tab [(189, (pureC TwX [(.rd, true)] [false] (fun t => [subE t.n t.x]) (fun t => [[.lf (.string t.x.least)]])))] cWay Try.f193 (body Try.f193) x := by
  rintro ⟨n, ks, d, h, hn, h4, h1, key⟩
  replace h : ∀ k ∈ ks, Shp false d k := h
  replace hn : d ≤ n := hn
  replace h4 : ks.length ≤ 4 := h4
  replace h1 : 1 ≤ ks.length := h1
  obtain ⟨n, rfl⟩ : ∃ m, n = m + 1 := by
    obtain ⟨k, hk⟩ := getL (l := ks) (j := 0) (by omega)
    have := (h k (List.mem_of_getElem? hk)).pos
    exact ⟨n - 1, by omega⟩
  conv => whnf
  let S0 : Nat → Nat → Sl := fun i a => [(6, .lf (.int .i64 i)), (5, .lf (.int .i64 a)), (1, .lf (.string key)), (2, .pt 32 0 0)]
  let H0 : Hp := [(32, some (.arr true 3 [[.lf (.bool ks.isEmpty), .sl 0 none, .sl 1 none]])), (1, some (.row .lent 3 (subE (n + 1)) ks)), (0, some (.row .lent 2 RngX.ds []))]
  refine ⟨fun m s h => ∃ i a : Nat, 1 ≤ i ∧ i ≤ ks.length ∧ a < i ∧ (a = 0 ∨ ∃ c, ks[a]? = some c ∧ strLt key c.least = false) ∧ (∀ j c, a < j → j < i → ks[j]? = some c → strLt key c.least = true) ∧ m = ks.length - i ∧ s = S0 i a ∧ h = H0,
    ks.length - 1, [(32, 32), (1, 1), (0, 0)], S0 1 0, H0, ⟨rfl, ⟨rfl, rfl, rfl, rfl, trivial⟩, rfl, rfl, rfl, trivial⟩, ⟨1, 0, Nat.le_refl _, h1, by omega, .inl rfl, fun j c h2 h3 => by omega, rfl, rfl, rfl⟩, ?_⟩
  rintro m _ _ ⟨i, a, g1, g2, g3, g4, g5, rfl, rfl, rfl⟩
  conv => whnf
  intro _
  conv => whnf
  refine br2 (fun h5 => ?_) (fun h5 => ?_)
  · have hi : i < ks.length := by have := of_decide_eq_true h5; omega
    obtain ⟨y, hy⟩ := getL hi
    have hys := h y (List.mem_of_getElem? hy)
    have step : ∀ {s' : Sl} {h' : Hp} (a' : Nat), a' < i + 1 → (a' = 0 ∨ ∃ c, ks[a']? = some c ∧ strLt key c.least = false) → (∀ j c, a' < j → j < i + 1 → ks[j]? = some c → strLt key c.least = true) → Le [(32, 32), (1, 1), (0, 0)] (S0 (i + 1) a') H0 s' h' →
        ∃ m' ρ s'' h'', m' < ks.length - i ∧ Le ρ s'' h'' s' h' ∧ ∃ i a : Nat, 1 ≤ i ∧ i ≤ ks.length ∧ a < i ∧ (a = 0 ∨ ∃ c, ks[a]? = some c ∧ strLt key c.least = false) ∧ (∀ j c, a < j → j < i → ks[j]? = some c → strLt key c.least = true) ∧ m' = ks.length - i ∧ s'' = S0 i a ∧ h'' = H0 := fun a' q1 q2 q3 hle =>
      ⟨ks.length - (i + 1), _, _, _, by omega, hle, i + 1, a', by omega, by omega, q1, q2, q3, rfl, rfl, rfl⟩
    obtain ⟨us, is⟩ := y
    conv => whnf
    refine ⟨Int.natCast_nonneg _, ltI hy, ?_⟩
    conv => whnf
    refine ex2 _ (nthI hy) ?_
    conv => whnf
    refine ⟨⟨n + 1, .mk us is, false, d, hys, hn⟩, rfl, ?_⟩
    rintro _ _ ⟨rfl, rfl⟩
    conv => whnf
    refine br2 (fun h6 => ?_) (fun h6 => ?_)
    · have h6' := le_strLt h6
      conv => whnf
      exact step i (by omega) (.inr ⟨_, hy, h6'⟩) (fun j c q1 q2 => by omega) ⟨rfl, ⟨incI hi (by omega), rfl, rfl, rfl, trivial⟩, rfl, rfl, rfl, trivial⟩
    · have h6' := nle_strLt h6
      conv => whnf
      refine step a (by omega) g4 (fun j c q1 q2 q3 => ?_) ⟨rfl, ⟨incI hi (by omega), rfl, rfl, rfl, trivial⟩, rfl, rfl, rfl, trivial⟩
      rcases Nat.lt_or_ge j i with q | q
      · exact g5 j c q1 q q3
      · obtain rfl : j = i := by omega
        rw [hy] at q3; cases q3; exact h6'
  · have hi : i = ks.length := by have := of_decide_eq_false h5; omega
    subst hi
    conv => whnf
    exact ⟨⟨rfl, a, rfl, g3, g4, fun c hc => g5 (a + 1) c (by omega) (List.getElem?_eq_some_iff.1 hc).1 hc⟩⟩
theorem sWay_ok : FnOk Try.prog 193 cWay := fnOk_of fun x => fnX_at tab_ok (SOk.cons sLeast_ok SOk.nil) mixed (fn := Try.f193) (code := body Try.f193) ⟨Try.func193, rfl, by kernel_rfl, by kernel_rfl, by kernel_rfl, by kernel_rfl⟩ (ev_sWay x)
end Go.Vm
namespace Go.Vm
open Go.Proofs
set_option maxRecDepth 100000
set_option linter.unusedVariables false
set_option linter.unusedSimpArgs false

structure PutS where
  n : Nat
  x : Tw
  b : Bool
  d : Nat
  h : x = .mk [] [] ∧ d = 1 ∨ Shp b d x
  hn : d ≤ n
  p : RngX
  hs : Srt x.all
theorem insL_end {p : RngX} {l : List RngX} (h : ∀ a ∈ l, strLt a.lo p.lo = true) : insL p l = l ++ [p] := by
  have := insL_front (p := p) (A := l) (B := []) h
  rwa [List.append_nil] at this
/-- What the loop over a leaf's pairs has come to. -/
structure InsI (p : RngX) (l : List RngX) (i : Nat) (done : Bool) (out : List RngX) : Prop where
  no : done = false → out = l.take i ∧ ∀ a ∈ l.take i, strLt a.lo p.lo = true
  yes : done = true → out = insL p (l.take i) ∧ ∀ j x, i ≤ j → l[j]? = some x → strLt p.lo x.lo = true
theorem srt_get {l : List RngX} (h : Srt l) {i j : Nat} {x y : RngX} (hij : i < j) (hx : l[i]? = some x) (hy : l[j]? = some y) : strLt x.lo y.lo = true := by
  obtain ⟨h1, rfl⟩ := List.getElem?_eq_some_iff.1 hx
  obtain ⟨h2, rfl⟩ := List.getElem?_eq_some_iff.1 hy
  exact List.pairwise_iff_getElem.1 h i j h1 h2 hij
theorem InsI.skip {p : RngX} {l : List RngX} {i : Nat} {out : List RngX} (h : InsI p l i false out) {x : RngX} (hx : l[i]? = some x) (hlt : strLt x.lo p.lo = true) : InsI p l (i + 1) false (out ++ [x]) := by
  obtain ⟨h1, h2⟩ := h.no rfl
  refine ⟨fun _ => ⟨?_, fun a ha => ?_⟩, fun h => by cases h⟩
  · rw [List.take_add_one, hx, h1]; rfl
  · rw [List.take_add_one, hx] at ha
    simp at ha
    rcases ha with ha | rfl
    · exact h2 a ha
    · exact hlt
theorem InsI.hit {p : RngX} {l : List RngX} {i : Nat} {out : List RngX} (h : InsI p l i false out) (hs : Srt l) {x : RngX} (hx : l[i]? = some x) (heq : x.lo = p.lo) : InsI p l (i + 1) true (out ++ [p]) := by
  obtain ⟨h1, h2⟩ := h.no rfl
  refine ⟨fun h => (by cases h), fun _ => ⟨?_, fun j y hj hy => ?_⟩⟩
  · rw [List.take_add_one, hx, h1]
    show _ = insL p (l.take i ++ [x])
    rw [insL_front h2]
    simp [insL, heq, strLt_irrefl]
  · rw [← heq]; exact srt_get hs (by omega) hx hy
theorem InsI.new {p : RngX} {l : List RngX} {i : Nat} {out : List RngX} (h : InsI p l i false out) (hs : Srt l) {x : RngX} (hx : l[i]? = some x) (hlt : strLt p.lo x.lo = true) : InsI p l (i + 1) true (out ++ [p] ++ [x]) := by
  obtain ⟨h1, h2⟩ := h.no rfl
  refine ⟨fun h => (by cases h), fun _ => ⟨?_, fun j y hj hy => ?_⟩⟩
  · rw [List.take_add_one, hx, h1]
    show _ = insL p (l.take i ++ [x])
    rw [insL_front h2]
    simp [insL, lt_asym hlt, hlt]
  · exact strLt_trans hlt (srt_get hs (by omega) hx hy)
theorem InsI.more {p : RngX} {l : List RngX} {i : Nat} {out : List RngX} (h : InsI p l i true out) {x : RngX} (hx : l[i]? = some x) : InsI p l (i + 1) true (out ++ [x]) ∧ x.lo ≠ p.lo := by
  obtain ⟨h1, h2⟩ := h.yes rfl
  refine ⟨⟨fun h => (by cases h), fun _ => ⟨?_, fun j y hj hy => h2 j y (by omega) hy⟩⟩, fun e => ?_⟩
  · rw [List.take_add_one, hx, h1]
    show _ = insL p (l.take i ++ [x])
    rw [insL_back (.inr (h2 i x (Nat.le_refl _) hx))]
  · have := h2 i x (Nat.le_refl _) hx
    rw [e, strLt_irrefl] at this; cases this
theorem InsI.all {p : RngX} {l : List RngX} {done : Bool} {out : List RngX} (h : InsI p l l.length done out) : (if done then out else out ++ [p]) = insL p l := by
  cases done with
  | false =>
    obtain ⟨h1, h2⟩ := h.no rfl
    rw [List.take_length] at h1 h2
    rw [insL_end h2, h1]; rfl
  | true =>
    have h1 := (h.yes rfl).1
    rw [List.take_length] at h1
    rw [h1]; rfl
theorem InsI.len {p : RngX} {l : List RngX} {i : Nat} {done : Bool} {out : List RngX} (h : InsI p l i done out) (hi : i ≤ l.length) : out.length ≤ l.length + 1 := by
  cases done with
  | false => rw [(h.no rfl).1, List.length_take]; omega
  | true => rw [(h.yes rfl).1]; have := (insL_len p (l.take i)).2.1; rw [List.length_take] at this; omega
def cSPut : Con := keepC PutS [(.keep, true), (.rd, true)] [false] (fun t => [subE t.n t.x, t.p.ds]) (fun t r => r = [[.row 3 (subE t.n) (two (t.x.put t.d t.p))]])
theorem ev_sPut : ∀ n x, (fun a => a.d) x = n → evFnX tab [(154, cSPut.below (fun a => a.d) n), (1000004, cGh), (198, (keepC SplX [(.keep, true)] [false] (fun t => [subE (t.n + 1) t.x]) (fun t r => r = [[.row 3 (subE (t.n + 1)) (splitT t.x)]]))), (193, cWay)] cSPut Try.f154 (body Try.f154) x := by
  rintro N ⟨n, ⟨ps, ks⟩, b, d, h, hn, p, hs⟩ rfl
  have hpos : 1 ≤ d := by rcases h with ⟨_, rfl⟩ | h; exact Nat.le_refl _; exact h.pos
  obtain ⟨n, rfl⟩ : ∃ m, n = m + 1 := ⟨n - 1, by omega⟩
  cases ks with
  | nil =>
    have hd : d = 1 := by rcases h with ⟨_, rfl⟩ | h; rfl; cases h; rfl; rename_i h1 _ _; simp at h1
    have hps : ps.length ≤ 4 := by rcases h with ⟨h, _⟩ | h; cases h; simp; cases h; assumption; rename_i h1 _ _; simp at h1
    replace hs : Srt ps := by simpa [Tw.all, Tw.alls] using hs
    subst hd
    conv => whnf
    refine ⟨[.row 208], ?_⟩
    conv => whnf
    refine ⟨RngX, RngX.ds, [], fun _ => rfl, rfl, ?_⟩
    conv => whnf
    intro _
    conv => whnf
    let S0 : Nat → Bool → Sl := fun i done => [(17, .lf (.int .i64 i)), (16, .lf (.int .i64 ps.length)), (15, .sl 0 none), (6, .lf (.bool done)), (5, .sl 208 none), (3, .pt 48 0 0)]
    let H0 : List RngX → Hp := fun out => [(208, some (.row .own 2 RngX.ds out)), (48, some (.arr true 2 [[.lf (.string p.lo), .lf (.string p.hi)]])), (0, some (.row .ro 2 RngX.ds ps))]
    refine ⟨fun m s h => ∃ (i : Nat) (done : Bool) (out : List RngX), i ≤ ps.length ∧ InsI p ps i done out ∧ m = ps.length - i ∧ s = S0 i done ∧ h = H0 out, ps.length, [(208, 208), (48, 48), (0, 0)], S0 0 false, H0 [], ⟨rfl, ⟨rfl, rfl, rfl, rfl, rfl, rfl, trivial⟩, rfl, rfl, rfl, trivial⟩,
      ⟨0, false, [], by omega, ⟨fun _ => ⟨rfl, fun a ha => by simp at ha⟩, fun h => (by cases h)⟩, by omega, rfl, rfl⟩, ?_⟩
    rintro m _ _ ⟨i, done, out, g1, g2, rfl, rfl, rfl⟩
    have hlen := g2.len g1
    conv => whnf
    refine br2 (fun h5 => ?_) (fun h5 => ?_)
    · have hi : i < ps.length := by have := of_decide_eq_true h5; omega
      obtain ⟨x, hx⟩ := getL hi
      have step : ∀ {s' : Sl} {h' : Hp} (ρ : List (Nat × Nat)) (done' : Bool) (out' : List RngX), InsI p ps (i + 1) done' out' → Le ρ (S0 (i + 1) done') (H0 out') s' h' →
          ∃ m' ρ s'' h'', m' < ps.length - i ∧ Le ρ s'' h'' s' h' ∧ ∃ (i : Nat) (done : Bool) (out : List RngX), i ≤ ps.length ∧ InsI p ps i done out ∧ m' = ps.length - i ∧ s'' = S0 i done ∧ h'' = H0 out := fun ρ done' out' h1 hle =>
        ⟨ps.length - (i + 1), ρ, _, _, by omega, hle, i + 1, done', out', by omega, h1, rfl, rfl, rfl⟩
      have hinc := incI hi (show ps.length ≤ 9223372036854775807 by omega)
      cases done with
      | false =>
        conv => whnf
        refine ⟨Int.natCast_nonneg _, ltI hx, ?_⟩
        conv => whnf
        refine ex2 _ (nthI hx) ?_
        conv => whnf
        refine br2 (fun h6 => ?_) (fun h6 => ?_)
        · conv => whnf
          refine ⟨[p], rfl, ?_, ?_⟩
          · show out.length + 1 ≤ 4294967296; omega
          conv => whnf
          refine br2 (fun h7 => ?_) (fun h7 => ?_)
          · have h7' : x.lo ≠ p.lo := by
              replace h7 : (!strEq x.lo p.lo) = true := h7
              rw [Bool.not_eq_true', strEq_no] at h7; exact h7
            have hlt : strLt p.lo x.lo = true := by
              replace h6 : (strLt p.lo x.lo || strEq p.lo x.lo) = true := h6
              rw [Bool.or_eq_true, strEq_iff] at h6
              rcases h6 with h | h
              · exact h
              · exact absurd h.symm h7'
            conv => whnf
            refine ⟨[x], rfl, ?_, ?_⟩
            · show (out ++ [p]).length + 1 ≤ 4294967296; rw [List.length_append]; simp; omega
            conv => whnf
            exact step [(672, 208), (48, 48), (0, 0)] true _ (g2.new hs hx hlt) ⟨rfl, ⟨hinc, rfl, rfl, rfl, rfl, rfl, trivial⟩, rfl, rfl, rfl, trivial⟩
          · have h7' : x.lo = p.lo := by
              replace h7 : (!strEq x.lo p.lo) = false := h7
              rw [Bool.not_eq_false', strEq_iff] at h7; exact h7
            conv => whnf
            exact step [(528, 208), (48, 48), (0, 0)] true _ (g2.hit hs hx h7') ⟨rfl, ⟨hinc, rfl, rfl, rfl, rfl, rfl, trivial⟩, rfl, rfl, rfl, trivial⟩
        · have hlt := nle_strLt h6
          conv => whnf
          refine br2 (fun h7 => ?_) (fun h7 => ?_)
          · conv => whnf
            refine ⟨[x], rfl, ?_, ?_⟩
            · show out.length + 1 ≤ 4294967296; omega
            conv => whnf
            exact step [(672, 208), (48, 48), (0, 0)] false _ (g2.skip hx hlt) ⟨rfl, ⟨hinc, rfl, rfl, rfl, rfl, rfl, trivial⟩, rfl, rfl, rfl, trivial⟩
          · exfalso
            replace h7 : (!strEq x.lo p.lo) = false := h7
            rw [Bool.not_eq_false', strEq_iff] at h7
            replace hlt : strLt x.lo p.lo = true := hlt
            rw [h7, strLt_irrefl] at hlt; cases hlt
      | true =>
        obtain ⟨q1, q2⟩ := g2.more hx
        conv => whnf
        refine ⟨Int.natCast_nonneg _, ltI hx, ?_⟩
        conv => whnf
        refine ex2 _ (nthI hx) ?_
        conv => whnf
        refine br2 (fun h7 => ?_) (fun h7 => ?_)
        · conv => whnf
          refine ⟨[x], rfl, ?_, ?_⟩
          · show out.length + 1 ≤ 4294967296; omega
          conv => whnf
          exact step [(672, 208), (48, 48), (0, 0)] true _ q1 ⟨rfl, ⟨hinc, rfl, rfl, rfl, rfl, rfl, trivial⟩, rfl, rfl, rfl, trivial⟩
        · exfalso
          replace h7 : (!strEq x.lo p.lo) = false := h7
          rw [Bool.not_eq_false', strEq_iff] at h7
          exact q2 h7
    · have hi : i = ps.length := by have := of_decide_eq_false h5; omega
      subst hi
      have hall := g2.all
      cases done with
      | false =>
        replace hall : out ++ [p] = insL p ps := hall
        conv => whnf
        refine ⟨[p], rfl, ?_, ?_⟩
        · show out.length + 1 ≤ 4294967296; omega
        conv => whnf
        refine ⟨3, Tw, subE n, subE_len n, ?_⟩
        conv => whnf
        refine ⟨⟨n, .mk (out ++ [p]) [], .inl rfl, (by show (out ++ [p]).length ≤ 4294967296; rw [List.length_append]; simp; omega), by show 0 ≤ 4294967296; omega⟩, rfl, ?_⟩
        rintro _ _ ⟨rfl, rfl⟩
        conv => whnf
        refine ⟨⟨rfl, ?_⟩⟩
        show [[D.row 3 (subE (n + 1)) (two (splitP (out ++ [p])))]] = [[D.row 3 (subE (n + 1)) (two (splitP (insL p ps)))]]
        rw [hall]
      | true =>
        replace hall : out = insL p ps := hall
        conv => whnf
        refine ⟨3, Tw, subE n, subE_len n, ?_⟩
        conv => whnf
        refine ⟨⟨n, .mk out [], .inl rfl, (by show out.length ≤ 4294967296; omega), by show 0 ≤ 4294967296; omega⟩, rfl, ?_⟩
        rintro _ _ ⟨rfl, rfl⟩
        conv => whnf
        refine ⟨⟨rfl, ?_⟩⟩
        show [[D.row 3 (subE (n + 1)) (two (splitP out))]] = [[D.row 3 (subE (n + 1)) (two (splitP (insL p ps)))]]
        rw [hall]
  | cons k ks =>
    replace h : Shp b d (.mk ps (k :: ks)) := by rcases h with ⟨h, _⟩ | h; cases h; exact h
    cases h with
    | node h1 h2 h3 =>
    rename_i d
    replace hs : Srt (Tw.alls (k :: ks)) := by simpa [Tw.all] using hs
    have hn' : d ≤ n := by omega
    conv => whnf
    refine ⟨⟨n, k :: ks, d, h3, hn', h2, by simp, p.lo⟩, rfl, ?_⟩
    rintro _ _ ⟨rfl, i, rfl, w⟩
    replace w : Way (k :: ks) p.lo i := w
    have hi := w.lt
    obtain ⟨y, hy⟩ := getL hi
    have hys := h3 y (List.mem_of_getElem? hy)
    have hyp := hys.pos
    obtain ⟨n, rfl⟩ : ∃ m, n = m + 1 := ⟨n - 1, by omega⟩
    have hsy : Srt y.all := by
      rw [Tw.alls_at hy, Srt.app, Srt.app] at hs
      exact hs.2.1.1
    have hwi : wayI (k :: ks) p.lo = i := (wayI_way (by simp)).uniq w hs h3
    obtain ⟨us, is⟩ := y
    conv => whnf
    refine ⟨by decide, Int.natCast_nonneg _, (show (i : Int) ≤ ((k :: ks).length : Int) by omega), ?_⟩
    conv => whnf
    refine ⟨false, ?_⟩
    conv => whnf
    refine ⟨Tw, subE (n + 1), [], subE_len _, rfl, ?_⟩
    conv => whnf
    refine ⟨((k :: ks).drop 0).take ((i : Int) - 0).toNat, rfl, ?_, ?_⟩
    · show 0 + (((k :: ks).drop 0).take ((i : Int) - 0).toNat).length ≤ 4294967296
      rw [List.length_take, List.length_drop]; omega
    conv => whnf
    refine ⟨Int.natCast_nonneg _, ltI hy, ?_⟩
    conv => whnf
    refine ex2 _ (nthI hy) ?_
    conv => whnf
    refine ⟨⟨⟨n + 1, .mk us is, false, d, .inr hys, hn', p, hsy⟩, Nat.lt_succ_self _⟩, rfl, ?_⟩
    rintro _ _ ⟨rfl, rfl⟩
    conv => whnf
    repeat ((first | refine rc_i rfl ?_ | refine rc_i (fun _ => rfl) ?_); conv => whnf)
    have hw1 : IntKind.i64.wrap ((i : Int) + 1) = (i : Int) + 1 := w64 (by omega) (by omega)
    have h2' : (k :: ks).length ≤ 4 := h2
    refine ⟨two ((Tw.mk us is).put d p), rfl, ?_, ?_⟩
    · show ([] ++ ((k :: ks).drop 0).take ((i : Int) - 0).toNat).length + (two ((Tw.mk us is).put d p)).length ≤ 4294967296
      have := (two_len ((Tw.mk us is).put d p)).2
      rw [List.nil_append, List.length_take, List.length_drop]; omega
    conv => whnf
    refine ⟨(show 0 ≤ IntKind.i64.wrap ((i : Int) + 1) by rw [hw1]; omega), (show IntKind.i64.wrap ((i : Int) + 1) ≤ ((k :: ks).length : Int) by rw [hw1]; omega), Int.le_refl _, ?_⟩
    conv => whnf
    have hA : ((k :: ks).drop 0).take ((i : Int) - 0).toNat = (k :: ks).take i := by rw [List.drop_zero, show ((i : Int) - 0).toNat = i by omega]
    have hB : ((k :: ks).drop (IntKind.i64.wrap ((i : Int) + 1)).toNat).take (((k :: ks).length : Int) - IntKind.i64.wrap ((i : Int) + 1)).toNat = (k :: ks).drop (i + 1) := by
      rw [hw1, show ((i : Int) + 1).toNat = i + 1 by omega]
      exact List.take_of_length_le (by rw [List.length_drop]; omega)
    have hT := (two_len ((Tw.mk us is).put d p)).2
    have hsum : [] ++ ((k :: ks).drop 0).take ((i : Int) - 0).toNat ++ two ((Tw.mk us is).put d p) ++ ((k :: ks).drop (IntKind.i64.wrap ((i : Int) + 1)).toNat).take (((k :: ks).length : Int) - IntKind.i64.wrap ((i : Int) + 1)).toNat = (k :: ks).take i ++ (two ((Tw.mk us is).put d p) ++ (k :: ks).drop (i + 1)) := by
      rw [hA, hB, List.nil_append, List.append_assoc]
    have hne : (k :: ks).take i ++ (two ((Tw.mk us is).put d p) ++ (k :: ks).drop (i + 1)) ≠ [] := by
      intro e
      have := congrArg List.length e
      have := (two_len ((Tw.mk us is).put d p)).1
      simp only [List.length_append, List.length_nil] at *; omega
    refine ⟨((k :: ks).drop (IntKind.i64.wrap ((i : Int) + 1)).toNat).take (((k :: ks).length : Int) - IntKind.i64.wrap ((i : Int) + 1)).toNat, rfl, ?_, ?_⟩
    · show ([] ++ ((k :: ks).drop 0).take ((i : Int) - 0).toNat ++ two ((Tw.mk us is).put d p)).length + _ ≤ 4294967296
      rw [hA, hB, List.nil_append, List.length_append, List.length_take, List.length_drop]; omega
    conv => whnf
    refine ⟨2, RngX, RngX.ds, fun _ => rfl, ?_⟩
    conv => whnf
    refine ⟨⟨n + 1, .mk [] ((k :: ks).take i ++ (two ((Tw.mk us is).put d p) ++ (k :: ks).drop (i + 1))), .inr rfl, by show 0 ≤ 4294967296; omega, ?_⟩, ?_, ?_⟩
    · show ((k :: ks).take i ++ (two ((Tw.mk us is).put d p) ++ (k :: ks).drop (i + 1))).length ≤ 4294967296
      simp only [List.length_append, List.length_take, List.length_drop]; omega
    · show [[D.lf (.bool ((k :: ks).take i ++ (two ((Tw.mk us is).put d p) ++ (k :: ks).drop (i + 1))).isEmpty), D.row 2 RngX.ds [], D.row 3 (subE (n + 1)) ((k :: ks).take i ++ (two ((Tw.mk us is).put d p) ++ (k :: ks).drop (i + 1)))]] = [[D.lf (.bool false), D.row 2 RngX.ds [], D.row 3 (subE (n + 1)) ([] ++ ((k :: ks).drop 0).take ((i : Int) - 0).toNat ++ two ((Tw.mk us is).put d p) ++ ((k :: ks).drop (IntKind.i64.wrap ((i : Int) + 1)).toNat).take (((k :: ks).length : Int) - IntKind.i64.wrap ((i : Int) + 1)).toNat)]]
      rw [hsum]
      cases e : (k :: ks).take i ++ (two ((Tw.mk us is).put d p) ++ (k :: ks).drop (i + 1)) with
      | nil => exact absurd e hne
      | cons => rfl
    rintro _ _ ⟨rfl, rfl⟩
    conv => whnf
    refine ⟨⟨rfl, ?_⟩⟩
    show [[D.row 3 (subE (n + 1 + 1)) (splitT (.mk [] ((k :: ks).take i ++ (two ((Tw.mk us is).put d p) ++ (k :: ks).drop (i + 1)))))]] = [[D.row 3 (subE (n + 1 + 1)) (two (Tw.put (d + 1) (.mk [] (k :: ks)) p))]]
    rw [put_node hwi hy]
    cases e : (k :: ks).take i ++ (two ((Tw.mk us is).put d p) ++ (k :: ks).drop (i + 1)) with
    | nil => exact absurd e hne
    | cons => rfl
theorem sPut_ok : FnOk Try.prog 154 cSPut := fn_rec (fun a => a.d) fun n hs x hx => fnX_at tab_ok (SOk.cons hs (SOk.cons gh_ok (SOk.cons sSplit_ok (SOk.cons sWay_ok SOk.nil)))) mixed (fn := Try.f154) (code := body Try.f154) ⟨Try.func154, rfl, by kernel_rfl, by kernel_rfl, by kernel_rfl, by kernel_rfl⟩ (ev_sPut n x hx)
end Go.Vm
namespace Go.Vm
open Go.Proofs
set_option maxRecDepth 100000
set_option linter.unusedVariables false
set_option linter.unusedSimpArgs false

/-- A node that may have one kid alone, or be an empty leaf; told n + 1 levels deep. -/
def TopOk (n : Nat) (y : Tw) : Prop :=
  (∃ ps, y = .mk ps [] ∧ ps.length ≤ 4) ∨ (∃ c d, y = .mk [] [c] ∧ Shp true d c ∧ d ≤ n ∧ c.size ≤ 4194304) ∨ (∃ d ps k k2 ks, y = .mk ps (k :: k2 :: ks) ∧ Shp true (d + 1) y ∧ d ≤ n ∧ y.size ≤ 4194304)
def one1 : Tw → Nat
  | .mk _ [_] => 1
  | _ => 0
theorem TopOk.kid {n : Nat} {c : Tw} (h : TopOk (n + 1) (.mk [] [c])) : TopOk n c ∧ c.top = some c ∧ one1 c = 0 := by
  rcases h with ⟨ps, h, _⟩ | ⟨c', d, h, hc, hd, hs⟩ | ⟨d, ps, k, k2, ks, h, _⟩
  · cases h
  · cases h
    cases hc with
    | leaf h1 h2 =>
      rename_i ps
      refine ⟨.inl ⟨ps, rfl, h2⟩, ?_, rfl⟩
      simp only [Tw.top, List.length_nil, Nat.add_zero]
      rw [if_neg (by simp at h1; omega)]
    | node h1 h2 h3 =>
      rename_i d ks
      match ks, h1, h2, h3, hs with
      | k :: k2 :: r, h1, h2, h3, hs =>
        exact ⟨.inr (.inr ⟨d, [], k, k2, r, rfl, .node (by simp) h2 h3, by omega, hs⟩), rfl, rfl⟩
  · cases h
structure TopX where
  n : Nat
  y : Tw
  h : TopOk n y
def cSTree : Con := pureC TopX [(.rd, true)] [true] (fun t => [subE (t.n + 1) t.y]) (fun t => [[.row 3 NodeX.ds (layO t.y.top)]])
theorem ev_sTree : ∀ x, evFnX tab [(137, cSLay)] cSTree Try.f145 (body Try.f145) x := by
  rintro ⟨n, ⟨ps, ks⟩, h⟩
  replace h : TopOk n (.mk ps ks) := h
  conv => whnf
  let S0 : Sl := [(1, .pt 16 0 0), (2, .pt 32 0 0)]
  let H0 : Nat → List RngX → List Tw → Hp := fun n ps ks => [(32, some (.arr true 1 [[.lf (.slice none 0 0)]])), (16, some (.arr true 3 [[.lf (.bool ks.isEmpty), .sl 0 none, .sl 1 none]])), (1, some (.row .lent 3 (subE n) ks)), (0, some (.row .lent 2 RngX.ds ps))]
  refine ⟨fun m s h => ∃ n' ps' ks', TopOk n' (.mk ps' ks') ∧ (Tw.mk ps' ks').top = (Tw.mk ps ks).top ∧ m = one1 (.mk ps' ks') ∧ s = S0 ∧ h = H0 n' ps' ks', one1 (.mk ps ks), [(32, 32), (16, 16), (1, 1), (0, 0)], S0, H0 n ps ks, ⟨rfl, ⟨rfl, rfl, trivial⟩, rfl, rfl, rfl, rfl, trivial⟩, ⟨n, ps, ks, h, rfl, rfl, rfl, rfl⟩, ?_⟩
  clear h
  rintro m _ _ ⟨n', ps', ks', h, htop, rfl, rfl, rfl⟩
  cases ks' with
  | nil =>
    have hps : ps'.length ≤ 4 := by
      rcases h with ⟨ps, h, h2⟩ | ⟨c', d, h, _⟩ | ⟨d, ps, k, k2, ks, h, _⟩
      · cases h; exact h2
      · cases h
      · cases h
    conv => whnf
    intro _
    conv => whnf
    refine br2 (fun h3 => ?_) (fun h3 => ?_)
    · have h3' : ps' = [] := by
        replace h3 : ((ps'.length : Int) == 0) = true := h3
        exact List.eq_nil_of_length_eq_zero (by simpa using h3)
      subst h3'
      conv => whnf
      refine ⟨3, NodeX, NodeX.ds, fun _ => rfl, ?_⟩
      conv => whnf
      refine ⟨⟨rfl, ?_⟩⟩
      show [[D.row 3 NodeX.ds []]] = [[D.row 3 NodeX.ds (layO (Tw.mk ps ks).top)]]
      rw [← htop]; rfl
    · have h3' : 1 ≤ ps'.length := by
        replace h3 : ((ps'.length : Int) == 0) = false := h3
        simp at h3
        cases ps' with
        | nil => exact absurd rfl h3
        | cons => simp
      conv => whnf
      refine ⟨3, NodeX, NodeX.ds, fun _ => rfl, ?_⟩
      conv => whnf
      refine ⟨⟨⟨n' + 1, .mk ps' [], true, 1, .leaf (by simpa using h3') hps, by omega⟩, [], by simp [Tw.size, Tw.sizes]⟩, rfl, ?_⟩
      rintro _ _ ⟨rfl, rfl⟩
      conv => whnf
      refine ⟨⟨rfl, ?_⟩⟩
      show [[D.row 3 NodeX.ds ([] ++ (Tw.mk ps' []).lay 0)]] = [[D.row 3 NodeX.ds (layO (Tw.mk ps ks).top)]]
      rw [← htop]
      simp only [Tw.top, List.length_nil, Nat.add_zero]
      rw [if_neg (by omega)]; rfl
  | cons c ks' =>
    cases ks' with
    | nil =>
      obtain ⟨d, rfl, hc, hd, hs⟩ : ∃ d, ps' = [] ∧ Shp true d c ∧ d ≤ n' ∧ c.size ≤ 4194304 := by
        rcases h with ⟨ps, h, h2⟩ | ⟨c', d, h, a1, a2, a3⟩ | ⟨d, ps, k, k2, ks, h, _⟩
        · cases h
        · cases h; exact ⟨d, rfl, a1, a2, a3⟩
        · cases h
      have hp := hc.pos
      obtain ⟨n', rfl⟩ : ∃ m, n' = m + 1 := ⟨n' - 1, by omega⟩
      obtain ⟨k1, k2, k3⟩ := h.kid
      obtain ⟨us, is⟩ := c
      conv => whnf
      intro _
      conv => whnf
      refine ⟨by decide, (show (0 : Int) < 1 by decide), ?_⟩
      conv => whnf
      refine ex2 _ rfl ?_
      conv => whnf
      exact ⟨0, [(32, 32), (16, 16), (241, 1), (240, 0)], S0, H0 n' us is, by show 0 < 1; omega, ⟨rfl, ⟨rfl, rfl, trivial⟩, rfl, rfl, rfl, rfl, trivial⟩, n', us, is, k1, k2.trans htop, k3.symm, rfl, rfl⟩
    | cons c2 ks' =>
      obtain ⟨d, hc, hd, hs⟩ : ∃ d, Shp true (d + 1) (.mk ps' (c :: c2 :: ks')) ∧ d ≤ n' ∧ (Tw.mk ps' (c :: c2 :: ks')).size ≤ 4194304 := by
        rcases h with ⟨ps, h, h2⟩ | ⟨c', d, h, a1, a2, a3⟩ | ⟨d, ps, k, k2, ks, h, a1, a2, a3⟩
        · cases h
        · cases h
        · exact ⟨d, a1, a2, a3⟩
      conv => whnf
      intro _
      conv => whnf
      refine ⟨3, NodeX, NodeX.ds, fun _ => rfl, ?_⟩
      conv => whnf
      refine ⟨⟨⟨n' + 1, .mk ps' (c :: c2 :: ks'), true, d + 1, hc, by omega⟩, [], by simpa using hs⟩, rfl, ?_⟩
      rintro _ _ ⟨rfl, rfl⟩
      conv => whnf
      refine ⟨⟨rfl, ?_⟩⟩
      show [[D.row 3 NodeX.ds ([] ++ (Tw.mk ps' (c :: c2 :: ks')).lay 0)]] = [[D.row 3 NodeX.ds (layO (Tw.mk ps ks).top)]]
      rw [← htop]
      simp only [Tw.top]
      rw [if_neg (by simp)]; rfl
theorem sTree_ok : FnOk Try.prog 145 cSTree := fnOk_of fun x => fnX_at tab_ok (SOk.cons sLay_ok SOk.nil) mixed (fn := Try.f145) (code := body Try.f145) ⟨Try.func145, rfl, by kernel_rfl, by kernel_rfl, by kernel_rfl, by kernel_rfl⟩ (ev_sTree x)
end Go.Vm
namespace Go.Vm
open Go.Proofs
set_option maxRecDepth 100000
set_option linter.unusedVariables false
set_option linter.unusedSimpArgs false

theorem root_tree {N : List NodeX} {o : Option Tw} {ok : Bool} (rs : RootS N o ok) (hT : TreeP N) : ok = true ∧ ∃ us is o', o = some (.mk us is) ∧ Vo o' ∧ N = layO o' ∧ (o' = none ∧ us = [] ∧ is = [] ∨ o' = some (.mk us is) ∧ ∃ d, Shp true d (.mk us is) ∧ d ≤ 7) := by
  by_cases hne : N = []
  · obtain ⟨rfl, rfl⟩ := rs.emp hne
    obtain ⟨o', ho, e⟩ := hT
    have := e
    rw [hne] at this
    have hn := layO_nil.1 this.symm
    exact ⟨rfl, [], [], o', rfl, ho, e, .inl ⟨hn, rfl, rfl⟩⟩
  · obtain ⟨y, d, a1, a2, a3, a4, a5, a6, a7⟩ := treeP_read hT hne
    cases ok with
    | false => exact absurd (show y.deep ≤ 13 by omega) (rs.no rfl y a4 a5)
    | true =>
      obtain ⟨x, rfl, b1, b2, b3⟩ := rs.yes rfl hne
      have := Fit.uniq x y 0 b1 a4
      subst this
      obtain ⟨o', ho, e⟩ := hT
      have e' : some x = o' := layO_inj (by rw [← e]; exact a3.symm)
      subst e'
      obtain ⟨us, is⟩ := x
      exact ⟨rfl, us, is, _, rfl, ho, e, .inr ⟨rfl, d, a1, by
        have := a1.deep_le (Nat.le_trans ho.ok.len (by omega)); omega⟩⟩
structure PutOk (o : Option Tw) (x : Tw) (p : RngX) (d : Nat) : Prop where
  pos : 1 ≤ d
  le : d ≤ 7
  shp : x = .mk [] [] ∧ d = 1 ∨ Shp true d x
  srt : Srt x.all
  top : (Tw.mk [] (two (x.put d p))).top = some (putO o p)
  ok : TopOk 13 (.mk [] (two (x.put d p)))
  prs : PrsOk (.mk [] (two (x.put d p)))
  all : Tw.alls (two (x.put d p)) = insL p (allO o)
  deep : (Tw.mk [] (two (x.put d p))).deep ≤ 13
theorem put_two {o : Option Tw} {us : List RngX} {is : List Tw} (p : RngX) (ho : Vo o) (h : o = none ∧ us = [] ∧ is = [] ∨ o = some (.mk us is) ∧ ∃ d, Shp true d (.mk us is) ∧ d ≤ 7) : ∃ d, PutOk o (.mk us is) p d := by
  rcases h with ⟨rfl, rfl, rfl⟩ | ⟨rfl, d, hd, hd7⟩
  · refine ⟨1, Nat.le_refl _, by omega, .inl ⟨rfl, rfl⟩, List.Pairwise.nil, rfl, ?_, ?_, rfl, ?_⟩
    · exact .inr (.inl ⟨.mk [p] [], 1, rfl, .leaf (by simp) (by simp), by omega, by show 1 + 0 ≤ _; omega⟩)
    · refine .inr ⟨_, rfl, by show 1 ≤ 4; omega, fun k hk => ?_⟩
      have hk' : k ∈ [Tw.mk [p] []] := hk
      obtain rfl : k = .mk [p] [] := by simpa using hk'
      exact ⟨true, 1, .leaf (by simp) (by simp)⟩
    · show 1 + max (1 + 0) 0 ≤ 13
      decide
  · have hs : Srt (Tw.mk us is).all := ho.ok.srt
    have e := hd.deep
    obtain ⟨h1, h2⟩ := Tw.put_ok p hd
    have hal := h2 hs
    have hlen : (insL p (Tw.mk us is).all).length ≤ 201 := by
      have := (insL_len p (Tw.mk us is).all).2.1
      have := ho.ok.len
      have : (allO (some (Tw.mk us is))).length = (Tw.mk us is).all.length := rfl
      omega
    have hput : putO (some (.mk us is)) p = match (Tw.mk us is).put d p with
        | (x', none) => x'
        | (x', some y) => .mk [] [x', y] := by simp only [putO, e]; rfl
    suffices key : (Tw.mk [] (two ((Tw.mk us is).put d p))).top = some (putO (some (.mk us is)) p) ∧ TopOk 13 (.mk [] (two ((Tw.mk us is).put d p))) ∧ PrsOk (.mk [] (two ((Tw.mk us is).put d p))) ∧ Tw.alls (two ((Tw.mk us is).put d p)) = insL p (Tw.mk us is).all ∧ (Tw.mk [] (two ((Tw.mk us is).put d p))).deep ≤ 13 from ⟨d, hd.pos, hd7, .inr hd, hs, key.1, key.2.1, key.2.2.1, key.2.2.2.1, key.2.2.2.2⟩
    rw [hput]
    generalize (Tw.mk us is).put d p = r at *
    obtain ⟨x', m⟩ := r
    cases m with
    | none =>
      have hx : Shp true d x' := h1.1 rfl
      have hsz := hx.manyR.2.2.1
      replace hal : x'.all ++ [] = _ := hal
      rw [List.append_nil] at hal
      refine ⟨rfl, .inr (.inl ⟨x', d, rfl, hx, by omega, by rw [hal] at hsz; omega⟩), .inr ⟨_, rfl, by show 1 ≤ 4; omega, fun k hk => ?_⟩, ?_, ?_⟩
      · obtain rfl : k = x' := by simpa [two] using hk
        exact ⟨true, d, hx⟩
      · show x'.all ++ [] = _
        rw [List.append_nil]; exact hal
      · show 1 + max x'.deep 0 ≤ 13
        rw [hx.deep]; omega
    | some y =>
      obtain ⟨a, b⟩ := h1.2 y rfl
      have hx : Shp true (d + 1) (.mk [] [x', y]) := .node (by simp) (by simp) fun k hk => by
        simp at hk
        rcases hk with rfl | rfl
        · exact a
        · exact b
      have hsz := hx.manyR.2.2.1
      have hal' : (Tw.mk [] [x', y]).all = insL p (Tw.mk us is).all := by
        show Tw.alls [x', y] ++ [] = _
        rw [List.append_nil]; exact hal
      rw [hal'] at hsz
      refine ⟨rfl, .inr (.inr ⟨d, [], x', y, [], rfl, hx, by omega, by show (Tw.mk [] [x', y]).size ≤ _; omega⟩), hx.prs, hal, ?_⟩
      show (Tw.mk [] [x', y]).deep ≤ 13
      rw [hx.deep]; omega
structure TPutX where
  t : TreeX
  k : ByteArray
  v : ByteArray
structure TPutR (N : List NodeX) (p : RngX) (N' : List NodeX) (ok : Bool) : Prop where
  yes : ∀ o, Vo o → N = layO o → kvOkB p = true → (insL p (allO o)).length ≤ 200 → ok = true ∧ N' = layO (some (putO o p))
  no : (∀ o, Vo o → N = layO o → kvOkB p = true → ¬ (insL p (allO o)).length ≤ 200) → ok = false ∧ N' = []
def cTreePut : Con := relC TPutX [(.rd, true), (.rd, false), (.rd, false)] [true, false] (fun x => [[.row 3 NodeX.ds x.t.N], [.lf (.string x.k)], [.lf (.string x.v)]]) (fun x r => ∃ N' ok, r = [[.row 3 NodeX.ds N'], [.lf (.bool ok)]] ∧ TPutR x.t.N ⟨x.k, x.v⟩ N' ok)
theorem ev_sTreePut : ∀ x, evFnX tab [(57, cTreeOk), (142, cKeyOk), (143, (cS1 valOkB)), (131, cSRoot), (154, cSPut), (132, (pureC PrsS [(.rd, true)] [false] (fun p => [subE p.n p.x]) (fun p => [[.row 2 RngX.ds p.x.all]]))), (145, cSTree)] cTreePut Try.f72 (body Try.f72) x := by
  rintro ⟨⟨N, f, hf, hN, hp⟩, k, v⟩
  replace hN : N.length ≤ 1048576 := hN
  conv => whnf
  refine ⟨⟨N, f, hf, hN, hp⟩, rfl, ?_⟩
  rintro _ _ ⟨rfl, b, rfl, e⟩
  conv => whnf
  replace e : b = true ↔ TreeP N := e
  have bad : (¬ TreeP N ∨ kvOkB ⟨k, v⟩ = false) → TPutR N ⟨k, v⟩ [] false := fun h => by
    refine ⟨fun o ho e h2 _ => ?_, fun _ => ⟨rfl, rfl⟩⟩
    rcases h with h | h
    · exact absurd ⟨o, ho, e⟩ h
    · rw [h] at h2; cases h2
  cases b with
  | false =>
    have h1' : ¬ TreeP N := fun h => by have := e.2 h; cases this
    conv => whnf
    refine ⟨3, NodeX, NodeX.ds, fun _ => rfl, ?_⟩
    conv => whnf
    exact ⟨⟨rfl, [], false, rfl, bad (.inl h1')⟩⟩
  | true =>
  have hT : TreeP N := e.1 rfl
  conv => whnf
  refine ⟨k, rfl, ?_⟩
  rintro _ _ ⟨rfl, rfl⟩
  conv => whnf
  cases hk : keyOkB k with
  | false =>
    conv => whnf
    refine ⟨3, NodeX, NodeX.ds, fun _ => rfl, ?_⟩
    conv => whnf
    exact ⟨⟨rfl, [], false, rfl, bad (.inr (by show (keyOkB k && _) = false; rw [hk]; rfl))⟩⟩
  | true =>
  conv => whnf
  refine ⟨v, rfl, ?_⟩
  rintro _ _ ⟨rfl, rfl⟩
  conv => whnf
  cases hv : valOkB v with
  | false =>
    conv => whnf
    refine ⟨3, NodeX, NodeX.ds, fun _ => rfl, ?_⟩
    conv => whnf
    exact ⟨⟨rfl, [], false, rfl, bad (.inr (by show (keyOkB k && valOkB v) = false; rw [hv, Bool.and_false]))⟩⟩
  | true =>
  conv => whnf
  refine ⟨⟨N, f, hf, hN, hp⟩, rfl, ?_⟩
  rintro _ _ ⟨rfl, o, ok, rfl, rs⟩
  obtain ⟨rfl, us, is, o', rfl, ho, e', hcase⟩ := root_tree rs hT
  obtain ⟨d, pk⟩ := put_two ⟨k, v⟩ ho hcase
  conv => whnf
  refine ⟨⟨13, .mk us is, true, d, pk.shp, Nat.le_trans pk.le (by omega), ⟨k, v⟩, pk.srt⟩, rfl, ?_⟩
  rintro _ _ ⟨rfl, rfl⟩
  conv => whnf
  have hall : (Tw.mk [] (two ((Tw.mk us is).put d ⟨k, v⟩))).all = insL ⟨k, v⟩ (allO o') := by
    show Tw.alls _ ++ [] = _
    rw [List.append_nil]; exact pk.all
  have hlen : (insL (⟨k, v⟩ : RngX) (allO o')).length ≤ 201 := by
    have := (insL_len (⟨k, v⟩ : RngX) (allO o')).2.1
    have := ho.ok.len
    omega
  refine ⟨2, RngX, RngX.ds, fun _ => rfl, ?_⟩
  conv => whnf
  refine ⟨⟨14, .mk [] (two ((Tw.mk us is).put d ⟨k, v⟩)), pk.prs, Nat.le_trans pk.deep (by omega), by rw [hall]; omega⟩, rfl, ?_⟩
  rintro _ _ ⟨rfl, rfl⟩
  conv => whnf
  intro _
  conv => whnf
  have hkv : kvOkB ⟨k, v⟩ = true := by show (keyOkB k && valOkB v) = true; rw [hk, hv]; rfl
  refine br2 (fun h1 => ?_) (fun h1 => ?_)
  · have h1' : ¬ (insL (⟨k, v⟩ : RngX) (allO o')).length ≤ 200 := by
      replace h1 : decide (((Tw.mk [] (two ((Tw.mk us is).put d ⟨k, v⟩))).all.length : Int) > 200) = true := h1
      rw [hall] at h1
      have := of_decide_eq_true h1; omega
    conv => whnf
    refine ⟨3, NodeX, NodeX.ds, fun _ => rfl, ?_⟩
    conv => whnf
    refine ⟨⟨rfl, [], false, rfl, fun o ho2 e2 _ hl => ?_, fun _ => ⟨rfl, rfl⟩⟩⟩
    have : o = o' := layO_inj (by rw [← e2, ← e'])
    subst this
    exact absurd hl h1'
  · have h1' : (insL (⟨k, v⟩ : RngX) (allO o')).length ≤ 200 := by
      replace h1 : decide (((Tw.mk [] (two ((Tw.mk us is).put d ⟨k, v⟩))).all.length : Int) > 200) = false := h1
      rw [hall] at h1
      have := of_decide_eq_false h1; omega
    conv => whnf
    refine ⟨2, RngX, RngX.ds, fun _ => rfl, ?_⟩
    conv => whnf
    refine ⟨⟨13, .mk [] (two ((Tw.mk us is).put d ⟨k, v⟩)), pk.ok⟩, rfl, ?_⟩
    rintro _ _ ⟨rfl, rfl⟩
    conv => whnf
    refine ⟨⟨rfl, _, true, rfl, fun o ho2 e2 _ hl => ⟨rfl, ?_⟩, fun h => absurd h1' (h o' ho e' hkv)⟩⟩
    have : o = o' := layO_inj (by rw [← e2, ← e'])
    subst this
    show layO (Tw.mk [] (two ((Tw.mk us is).put d ⟨k, v⟩))).top = _
    rw [pk.top]
theorem sTreePut_ok : FnOk Try.prog 72 cTreePut := fnOk_of fun x => fnX_at tab_ok (SOk.cons sTreeOk_ok (SOk.cons sKeyOk_ok (SOk.cons sValOk_ok (SOk.cons sRoot_ok (SOk.cons sPut_ok (SOk.cons sPairs_ok (SOk.cons sTree_ok SOk.nil))))))) mixed (fn := Try.f72) (code := body Try.f72) ⟨Try.func72, rfl, by kernel_rfl, by kernel_rfl, by kernel_rfl, by kernel_rfl⟩ (ev_sTreePut x)
end Go.Vm
namespace Go.Vm
open Go.Proofs
set_option maxRecDepth 100000
set_option linter.unusedVariables false
set_option linter.unusedSimpArgs false

structure FewX where
  n : Nat
  x : Tw
  h : x.ks = [] ∨ x.ps = []
theorem ev_sFew : ∀ x, evFnX tab [] (pureC FewX [(.rd, true)] [false] (fun t => [subE (t.n + 1) t.x]) (fun t => [[.lf (.bool t.x.few)]])) Try.f194 (body Try.f194) x := by
  rintro ⟨n, ⟨ps, ks⟩, h⟩
  replace h : ks = [] ∨ ps = [] := h
  cases ks with
  | nil =>
    have e : (Tw.mk ps []).few = decide ((ps.length : Int) < 2) := by
      unfold Tw.few
      rw [decide_eq_decide]; show ps.length + 0 < 2 ↔ _; omega
    conv => whnf
    intro _
    conv => whnf
    refine br2 (fun h1 => ?_) (fun h1 => ?_)
    all_goals
      conv => whnf
      refine ⟨⟨rfl, ?_⟩⟩
      show [[D.lf (.bool _)]] = [[D.lf (.bool (Tw.mk ps []).few)]]
      rw [e]
      first
        | (replace h1 : decide ((ps.length : Int) < 2) = true := h1; rw [h1])
        | (replace h1 : decide ((ps.length : Int) < 2) = false := h1; rw [h1])
  | cons k ks =>
    obtain rfl : ps = [] := by rcases h with h | h; cases h; exact h
    have e : (Tw.mk [] (k :: ks)).few = decide (((k :: ks).length : Int) < 2) := by
      unfold Tw.few
      rw [decide_eq_decide]; show 0 + (k :: ks).length < 2 ↔ _; omega
    conv => whnf
    intro _
    conv => whnf
    refine ⟨⟨rfl, ?_⟩⟩
    show [[D.lf (.bool (decide (((k :: ks).length : Int) < 2)))]] = [[D.lf (.bool (Tw.mk [] (k :: ks)).few)]]
    rw [e]
theorem sFew_ok : FnOk Try.prog 194 (pureC FewX [(.rd, true)] [false] (fun t => [subE (t.n + 1) t.x]) (fun t => [[.lf (.bool t.x.few)]])) := fnOk_of fun x => fnX_at tab_ok (SOk.nil) mixed (fn := Try.f194) (code := body Try.f194) ⟨Try.func194, rfl, by kernel_rfl, by kernel_rfl, by kernel_rfl, by kernel_rfl⟩ (ev_sFew x)
structure TogX where
  n : Nat
  a : Tw
  b : Tw
  h : a.ks = [] ∧ b.ks = [] ∨ a.ps = [] ∧ b.ps = [] ∧ a.ks ≠ [] ∧ b.ks ≠ []
  hl : a.ps.length ≤ 4 ∧ b.ps.length ≤ 4 ∧ a.ks.length ≤ 4 ∧ b.ks.length ≤ 4
def cTog : Con := keepC TogX [(.keep, true), (.keep, true)] [false] (fun t => [subE (t.n + 1) t.a, subE (t.n + 1) t.b]) (fun t r => r = [[.row 3 (subE (t.n + 1)) (splitT (t.a.join t.b))]])
theorem ev_sTog : ∀ x, evFnX tab [(198, (keepC SplX [(.keep, true)] [false] (fun t => [subE (t.n + 1) t.x]) (fun t r => r = [[.row 3 (subE (t.n + 1)) (splitT t.x)]])))] cTog Try.f195 (body Try.f195) x := by
  rintro ⟨n, ⟨ps, ks⟩, ⟨us, is⟩, h, hl1, hl2, hl3, hl4⟩
  replace h : ks = [] ∧ is = [] ∨ ps = [] ∧ us = [] ∧ ks ≠ [] ∧ is ≠ [] := h
  replace hl1 : ps.length ≤ 4 := hl1
  replace hl2 : us.length ≤ 4 := hl2
  replace hl3 : ks.length ≤ 4 := hl3
  replace hl4 : is.length ≤ 4 := hl4
  conv => whnf
  repeat ((first | refine rc_i rfl ?_ | refine rc_i (fun _ => rfl) ?_); conv => whnf)
  refine ⟨true, ?_⟩
  conv => whnf
  refine ⟨RngX, RngX.ds, [], fun _ => rfl, rfl, ?_⟩
  conv => whnf
  repeat ((first | refine rc_i rfl ?_ | refine rc_i (fun _ => rfl) ?_); conv => whnf)
  refine ⟨fun _ => rfl, ps, rfl, (by show 0 + ps.length ≤ 4294967296; omega), ?_⟩
  conv => whnf
  repeat ((first | refine rc_i rfl ?_ | refine rc_i (fun _ => rfl) ?_); conv => whnf)
  refine ⟨fun _ => rfl, us, rfl, (by show ([] ++ ps).length + us.length ≤ 4294967296; rw [List.nil_append]; omega), ?_⟩
  conv => whnf
  repeat ((first | refine rc_i rfl ?_ | refine rc_i (fun _ => rfl) ?_); conv => whnf)
  refine ⟨false, ?_⟩
  conv => whnf
  refine ⟨Tw, subE n, [], subE_len _, rfl, ?_⟩
  conv => whnf
  repeat ((first | refine rc_i rfl ?_ | refine rc_i (fun _ => rfl) ?_); conv => whnf)
  refine ⟨ks, rfl, (by show 0 + ks.length ≤ 4294967296; omega), ?_⟩
  conv => whnf
  repeat ((first | refine rc_i rfl ?_ | refine rc_i (fun _ => rfl) ?_); conv => whnf)
  refine ⟨is, rfl, (by show ([] ++ ks).length + is.length ≤ 4294967296; rw [List.nil_append]; omega), ?_⟩
  conv => whnf
  repeat ((first | refine rc_i rfl ?_ | refine rc_i (fun _ => rfl) ?_); conv => whnf)
  have he : (ks ++ is).isEmpty = ks.isEmpty := by
    rcases h with ⟨rfl, rfl⟩ | ⟨_, _, h, _⟩
    · rfl
    · cases ks with
      | nil => exact absurd rfl h
      | cons => rfl
  refine ⟨⟨n, .mk (ps ++ us) (ks ++ is), ?_, ?_⟩, ?_, ?_⟩
  · rcases h with ⟨rfl, rfl⟩ | ⟨rfl, rfl, _⟩
    · exact .inl rfl
    · exact .inr rfl
  · show (ps ++ us).length ≤ 4294967296 ∧ (ks ++ is).length ≤ 4294967296
    rw [List.length_append, List.length_append]; omega
  · show [[D.lf (.bool (ks ++ is).isEmpty), D.row 2 RngX.ds (ps ++ us), D.row 3 (subE n) (ks ++ is)]] = [[D.lf (.bool ks.isEmpty), D.row 2 RngX.ds (ps ++ us), D.row 3 (subE n) (ks ++ is)]]
    rw [he]
  rintro _ _ ⟨rfl, rfl⟩
  conv => whnf
  exact ⟨⟨rfl, rfl⟩⟩
theorem sTog_ok : FnOk Try.prog 195 cTog := fnOk_of fun x => fnX_at tab_ok (SOk.cons sSplit_ok SOk.nil) mixed (fn := Try.f195) (code := body Try.f195) ⟨Try.func195, rfl, by kernel_rfl, by kernel_rfl, by kernel_rfl, by kernel_rfl⟩ (ev_sTog x)
end Go.Vm
namespace Go.Vm
open Go.Proofs
set_option maxRecDepth 100000
set_option linter.unusedVariables false
set_option linter.unusedSimpArgs false

structure DropS where
  n : Nat
  x : Tw
  b : Bool
  d : Nat
  h : x = .mk [] [] ∧ d = 1 ∨ Shp b d x
  hn : d ≤ n
  k : ByteArray
  hs : Srt x.all
theorem low_tog {d : Nat} {a b : Tw} (ha : Low d a) (hb : Low d b) : (a.ks = [] ∧ b.ks = [] ∨ a.ps = [] ∧ b.ps = [] ∧ a.ks ≠ [] ∧ b.ks ≠ []) ∧ (a.ps.length ≤ 4 ∧ b.ps.length ≤ 4 ∧ a.ks.length ≤ 4 ∧ b.ks.length ≤ 4) ∧ splitT (a.join b) = resplit a b := by
  cases ha with
  | leaf a2 =>
    rename_i ps
    cases hb with
    | leaf b2 =>
      rename_i us
      refine ⟨.inl ⟨rfl, rfl⟩, ⟨a2, b2, by simp [Tw.ks], by simp [Tw.ks]⟩, ?_⟩
      show two (splitP (ps ++ us)) = resplit (.mk ps []) (.mk us [])
      unfold splitP resplit
      simp only [Tw.ps, Tw.ks, Tw.join, List.append_nil, List.length_nil, Nat.add_zero, if_true]
      split <;> rfl
    | node b1 b2 b3 =>
      exfalso
      have := (b3 _ (List.getElem_mem (show 0 < _ by omega))).pos
      omega
  | node a1 a2 a3 =>
    rename_i d ks
    have hd := (a3 _ (List.getElem_mem (show 0 < _ by omega))).pos
    cases hb with
    | leaf b2 => omega
    | node b1 b2 b3 =>
      rename_i is
      have n1 : ks ≠ [] := by rintro rfl; simp at a1
      have n2 : is ≠ [] := by rintro rfl; simp at b1
      refine ⟨.inr ⟨rfl, rfl, n1, n2⟩, ⟨by simp [Tw.ps], by simp [Tw.ps], a2, b2⟩, ?_⟩
      cases ks with
      | nil => exact absurd rfl n1
      | cons c ks =>
        show two (splitK (c :: ks ++ is)) = resplit (.mk [] (c :: ks)) (.mk [] is)
        unfold splitK resplit
        simp only [Tw.ps, Tw.ks, Tw.join, List.append_nil, List.length_nil, Nat.zero_add]
        rw [if_neg (show ¬ (c :: ks ++ is).length = 0 by simp)]
        split <;> rfl
theorem delL_take {k : ByteArray} {l : List RngX} {i : Nat} {x : RngX} (h : l[i]? = some x) : delL k (l.take (i + 1)) = if x.lo = k then delL k (l.take i) else delL k (l.take i) ++ [x] := by
  rw [List.take_add_one, h]
  show delL k (l.take i ++ [x]) = _
  rw [delL_app]
  unfold delL
  rw [List.filter_cons, List.filter_nil]
  by_cases e : x.lo = k
  · rw [if_pos e, eqK_iff.2 e]; simp
  · rw [if_neg e]
    cases e2 : eqK x.lo k with
    | true => exact absurd (eqK_iff.1 e2) e
    | false => rfl
def cSDrop : Con := keepC DropS [(.keep, true), (.rd, false)] [true] (fun t => [subE t.n t.x, [.lf (.string t.k)]]) (fun t r => ∃ u j, r = [subE t.n (.mk u j)] ∧ t.x.drop t.d t.k = .mk u j)
theorem ev_sDrop : ∀ n x, (fun a => a.d) x = n → evFnX tab [(146, cSDrop.below (fun a => a.d) n), (1000003, cGh), (193, cWay), (194, (pureC FewX [(.rd, true)] [false] (fun t => [subE (t.n + 1) t.x]) (fun t => [[.lf (.bool t.x.few)]]))), (195, cTog)] cSDrop Try.f146 (body Try.f146) x := by
  rintro N ⟨n, ⟨ps, ks⟩, b, d, h, hn, k, hs⟩ rfl
  have hpos : 1 ≤ d := by rcases h with ⟨_, rfl⟩ | h; exact Nat.le_refl _; exact h.pos
  obtain ⟨n, rfl⟩ : ∃ m, n = m + 1 := ⟨n - 1, by omega⟩
  cases ks with
  | nil =>
    have hd : d = 1 := by rcases h with ⟨_, rfl⟩ | h; rfl; cases h; rfl; rename_i h1 _ _; simp at h1
    have hps : ps.length ≤ 4 := by rcases h with ⟨h, _⟩ | h; cases h; simp; cases h; assumption; rename_i h1 _ _; simp at h1
    subst hd
    conv => whnf
    refine ⟨[.row 208], ?_⟩
    conv => whnf
    refine ⟨RngX, RngX.ds, [], fun _ => rfl, rfl, ?_⟩
    conv => whnf
    intro _
    conv => whnf
    let S0 : Nat → Sl := fun i => [(17, .lf (.int .i64 i)), (16, .lf (.int .i64 ps.length)), (15, .sl 0 none), (5, .sl 208 none), (1, .lf (.string k)), (4, .pt 64 0 0)]
    let H0 : Nat → Hp := fun i => [(208, some (.row .own 2 RngX.ds (delL k (ps.take i)))), (64, some (.arr true 3 [[.lf (.bool false), .lf (.slice none 0 0), .lf (.slice none 0 0)]])), (0, some (.row .ro 2 RngX.ds ps))]
    refine ⟨fun m s h => ∃ i : Nat, i ≤ ps.length ∧ m = ps.length - i ∧ s = S0 i ∧ h = H0 i, ps.length, [(208, 208), (64, 64), (0, 0)], S0 0, H0 0, ⟨rfl, ⟨rfl, rfl, rfl, rfl, rfl, rfl, trivial⟩, rfl, rfl, rfl, trivial⟩, ⟨0, by omega, by omega, rfl, rfl⟩, ?_⟩
    rintro m _ _ ⟨i, g1, rfl, rfl, rfl⟩
    conv => whnf
    refine br2 (fun h5 => ?_) (fun h5 => ?_)
    · have hi : i < ps.length := by have := of_decide_eq_true h5; omega
      obtain ⟨x, hx⟩ := getL hi
      have hlen : (delL k (ps.take i)).length ≤ 4 := by
        have := delL_len k (ps.take i)
        rw [List.length_take] at this; omega
      have ht := delL_take (k := k) hx
      have hinc := incI hi (show ps.length ≤ 9223372036854775807 by omega)
      conv => whnf
      refine ⟨Int.natCast_nonneg _, ltI hx, ?_⟩
      conv => whnf
      refine ex2 _ (nthI hx) ?_
      conv => whnf
      refine br2 (fun h7 => ?_) (fun h7 => ?_)
      · have h7' : x.lo ≠ k := by
          replace h7 : (!strEq x.lo k) = true := h7
          rw [Bool.not_eq_true', strEq_no] at h7; exact h7
        rw [if_neg h7'] at ht
        conv => whnf
        refine ⟨[x], rfl, ?_, ?_⟩
        · show (delL k (ps.take i)).length + 1 ≤ 4294967296; omega
        conv => whnf
        refine ⟨ps.length - (i + 1), [(448, 208), (64, 64), (0, 0)], S0 (i + 1), H0 (i + 1), by omega, ⟨rfl, ⟨hinc, rfl, rfl, rfl, rfl, rfl, trivial⟩, ?_, rfl, rfl, trivial⟩, i + 1, by omega, rfl, rfl, rfl⟩
        show _ = some (Ob.row Kind.own 2 RngX.ds (delL k (ps.take (i + 1))))
        rw [ht]; rfl
      · have h7' : x.lo = k := by
          replace h7 : (!strEq x.lo k) = false := h7
          rw [Bool.not_eq_false', strEq_iff] at h7; exact h7
        rw [if_pos h7'] at ht
        conv => whnf
        refine ⟨ps.length - (i + 1), [(208, 208), (64, 64), (0, 0)], S0 (i + 1), H0 (i + 1), by omega, ⟨rfl, ⟨hinc, rfl, rfl, rfl, rfl, rfl, trivial⟩, ?_, rfl, rfl, trivial⟩, i + 1, by omega, rfl, rfl, rfl⟩
        show _ = some (Ob.row Kind.own 2 RngX.ds (delL k (ps.take (i + 1))))
        rw [ht]; rfl
    · have hi : i = ps.length := by have := of_decide_eq_false h5; omega
      subst hi
      conv => whnf
      refine ⟨3, Tw, subE n, subE_len n, ?_⟩
      conv => whnf
      refine ⟨⟨rfl, delL k ps, [], ?_, rfl⟩⟩
      show [subE (n + 1) (.mk (delL k (ps.take ps.length)) [])] = [subE (n + 1) (.mk (delL k ps) [])]
      rw [List.take_length]
  | cons c ks =>
    replace h : Shp b d (.mk ps (c :: ks)) := by rcases h with ⟨h, _⟩ | h; cases h; exact h
    cases h with
    | node h1 h2 h3 =>
    rename_i d
    replace hs : Srt (Tw.alls (c :: ks)) := by simpa [Tw.all] using hs
    have hn' : d ≤ n := by omega
    conv => whnf
    refine ⟨⟨n, c :: ks, d, h3, hn', h2, by simp, k⟩, rfl, ?_⟩
    rintro _ _ ⟨rfl, i, rfl, w⟩
    replace w : Way (c :: ks) k i := w
    have hi := w.lt
    have h2' : (c :: ks).length ≤ 4 := h2
    obtain ⟨y, hy⟩ := getL hi
    have hys := h3 y (List.mem_of_getElem? hy)
    have hyp := hys.pos
    obtain ⟨n, rfl⟩ : ∃ m, n = m + 1 := ⟨n - 1, by omega⟩
    have hsy : Srt y.all := by
      rw [Tw.alls_at hy, Srt.app, Srt.app] at hs
      exact hs.2.1.1
    have hwi : wayI (c :: ks) k = i := (wayI_way (by simp)).uniq w hs h3
    have hlow := (Tw.drop_ok k hys).1
    have hK : Kds d i ((c :: ks).set i (y.drop d k)) := Kds.set h3 hi hlow
    have hset : ((c :: ks).set i (y.drop d k))[i]? = some (y.drop d k) := by rw [List.getElem?_set, if_pos rfl, if_pos hi]
    have hdn := drop_node (n := d) (ps := []) hwi hy
    obtain ⟨us, is⟩ := y
    conv => whnf
    refine ⟨false, ?_⟩
    conv => whnf
    refine ⟨Tw, subE (n + 1), [], subE_len _, rfl, ?_⟩
    conv => whnf
    refine ⟨c :: ks, rfl, (by show 0 + (c :: ks).length ≤ 4294967296; omega), ?_⟩
    conv => whnf
    refine ⟨Int.natCast_nonneg _, ltI hy, ?_⟩
    conv => whnf
    refine ex2 _ (nthI hy) ?_
    conv => whnf
    refine ⟨⟨⟨n + 1, .mk us is, false, d, .inr hys, hn', k, hsy⟩, Nat.lt_succ_self _⟩, rfl, ?_⟩
    rintro _ _ ⟨rfl, du, dj, rfl, hdr⟩
    replace hdr : (Tw.mk us is).drop d k = .mk du dj := hdr
    rw [hdr] at hlow hK hset hdn
    conv => whnf
    refine ⟨Int.natCast_nonneg _, ltI hy, ?_⟩
    conv => whnf
    refine ex2 _ (nthI hy) ?_
    conv => whnf
    refine ⟨.mk du dj, rfl, ?_⟩
    conv => whnf
    refine ⟨Int.natCast_nonneg _, ltI hset, ?_⟩
    conv => whnf
    refine ex2 _ (nthI hset) ?_
    conv => whnf
    have hfl : dj = [] ∨ du = [] := by cases hlow; exact .inl rfl; exact .inr rfl
    refine ⟨⟨n, .mk du dj, hfl⟩, rfl, ?_⟩
    rintro _ _ ⟨rfl, rfl⟩
    conv => whnf
    have hLl : ((c :: ks).set i (.mk du dj)).length = (c :: ks).length := List.length_set
    have hne : ∀ {L : List Tw}, 1 ≤ L.length → L.isEmpty = false := fun {L} h => by cases L with | nil => simp at h | cons => rfl
    refine br2 (fun h6 => ?_) (fun h6 => ?_)
    · have h6' : (Tw.mk du dj).few = false := by
        replace h6 : (!(Tw.mk du dj).few) = true := h6
        rwa [Bool.not_eq_true'] at h6
      rw [h6'] at hdn
      conv => whnf
      refine ⟨2, RngX, RngX.ds, fun _ => rfl, ?_⟩
      conv => whnf
      refine ⟨⟨rfl, [], (c :: ks).set i (.mk du dj), ?_, hdn⟩⟩
      show [[D.lf (.bool false), D.row 2 RngX.ds [], D.row 3 (subE (n + 1)) ((c :: ks).set i (.mk du dj))]] = [[D.lf (.bool ((c :: ks).set i (.mk du dj)).isEmpty), D.row 2 RngX.ds [], D.row 3 (subE (n + 1)) ((c :: ks).set i (.mk du dj))]]
      rw [hne (by omega)]
    have h6' : (Tw.mk du dj).few = true := by
      replace h6 : (!(Tw.mk du dj).few) = false := h6
      rwa [Bool.not_eq_false'] at h6
    rw [h6'] at hdn
    obtain ⟨f, s, e1, e2, l1, l2, hor⟩ := hK.mend (by omega) hset h6'
    rw [if_pos rfl, mendL_eq e1 e2] at hdn
    obtain ⟨tg1, tg2, tg3⟩ := low_tog l1 l2
    obtain ⟨rs1, rs2, rs3, rs4⟩ := resplit_ok l1 l2 hor
    have hlt2 := (List.getElem?_eq_some_iff.1 e2).1
    conv => whnf
    obtain ⟨fu, fi⟩ := f
    obtain ⟨su, si⟩ := s
    intro _
    conv => whnf
    refine br2 (fun h8 => ?_) (fun h8 => ?_)
    · exfalso
      replace h8 : decide ((((c :: ks).set i (.mk du dj)).length : Int) < 2) = true := h8
      have := of_decide_eq_true h8
      omega
    conv => whnf
    refine br2 (fun h9 => ?_) (fun h9 => ?_)
    · have h9' : i = 0 := by
        replace h9 : ((i : Int) == 0) = true := h9
        simpa using h9
      have hA : (1 : Int) = ((i - 1 + 1 : Nat) : Int) := by omega
      have hw : IntKind.i64.wrap ((1 : Int) - 1) = ((i - 1 : Nat) : Int) := by rw [w64 (by omega) (by omega)]; omega
      have hwp : IntKind.i64.wrap ((1 : Int) + 1) = ((i - 1 + 2 : Nat) : Int) := by rw [w64 (by omega) (by omega)]; omega
      conv => whnf
      refine ⟨by decide, (show 0 ≤ IntKind.i64.wrap ((1 : Int) - 1) by rw [hw]; omega), (show IntKind.i64.wrap ((1 : Int) - 1) ≤ (((c :: ks).set i (.mk du dj)).length : Int) by rw [hw, hLl]; omega), ?_⟩
      conv => whnf
      refine ⟨false, ?_⟩
      conv => whnf
      refine ⟨Tw, subE (n + 1), [], subE_len _, rfl, ?_⟩
      conv => whnf
      refine ⟨(((c :: ks).set i (.mk du dj)).drop 0).take (IntKind.i64.wrap ((1 : Int) - 1) - 0).toNat, rfl, ?_, ?_⟩
      · show 0 + ((((c :: ks).set i (.mk du dj)).drop 0).take (IntKind.i64.wrap ((1 : Int) - 1) - 0).toNat).length ≤ 4294967296
        rw [List.length_take, List.length_drop]; omega
      conv => whnf
      refine ⟨(ixE hw e1).1, (ixE hw e1).2, ?_⟩
      conv => whnf
      refine ex2 _ (nthE hw e1) ?_
      conv => whnf
      refine ⟨(ixE hA e2).1, (ixE hA e2).2, ?_⟩
      conv => whnf
      refine ex2 _ (nthE hA e2) ?_
      conv => whnf
      refine ⟨⟨n, .mk fu fi, .mk su si, tg1, tg2⟩, rfl, ?_⟩
      rintro _ _ ⟨rfl, rfl⟩
      conv => whnf
      repeat ((first | refine rc_i rfl ?_ | refine rc_i (fun _ => rfl) ?_); conv => whnf)
      refine ⟨splitT ((Tw.mk fu fi).join (.mk su si)), rfl, ?_, ?_⟩
      · show ([] ++ (((c :: ks).set i (.mk du dj)).drop 0).take (IntKind.i64.wrap ((1 : Int) - 1) - 0).toNat).length + (splitT ((Tw.mk fu fi).join (.mk su si))).length ≤ 4294967296
        rw [List.nil_append, List.length_take, List.length_drop, tg3]; omega
      conv => whnf
      refine ⟨(show 0 ≤ IntKind.i64.wrap ((1 : Int) + 1) by rw [hwp]; omega), (show IntKind.i64.wrap ((1 : Int) + 1) ≤ (((c :: ks).set i (.mk du dj)).length : Int) by rw [hwp, hLl]; omega), Int.le_refl _, ?_⟩
      conv => whnf
      refine ⟨(((c :: ks).set i (.mk du dj)).drop (IntKind.i64.wrap ((1 : Int) + 1)).toNat).take ((((c :: ks).set i (.mk du dj)).length : Int) - IntKind.i64.wrap ((1 : Int) + 1)).toNat, rfl, ?_, ?_⟩
      · show ([] ++ (((c :: ks).set i (.mk du dj)).drop 0).take (IntKind.i64.wrap ((1 : Int) - 1) - 0).toNat ++ splitT ((Tw.mk fu fi).join (.mk su si))).length + ((((c :: ks).set i (.mk du dj)).drop (IntKind.i64.wrap ((1 : Int) + 1)).toNat).take ((((c :: ks).set i (.mk du dj)).length : Int) - IntKind.i64.wrap ((1 : Int) + 1)).toNat).length ≤ 4294967296
        rw [List.nil_append, List.length_append, List.length_take, List.length_take, List.length_drop, List.length_drop, tg3]; omega
      conv => whnf
      refine ⟨2, RngX, RngX.ds, fun _ => rfl, ?_⟩
      conv => whnf
      refine ⟨⟨rfl, [], ((c :: ks).set i (.mk du dj)).take (i - 1) ++ (resplit (.mk fu fi) (.mk su si) ++ ((c :: ks).set i (.mk du dj)).drop (i - 1 + 2)), ?_, hdn⟩⟩
      show [[D.lf (.bool false), D.row 2 RngX.ds [], D.row 3 (subE (n + 1)) ([] ++ (((c :: ks).set i (.mk du dj)).drop 0).take (IntKind.i64.wrap ((1 : Int) - 1) - 0).toNat ++ splitT ((Tw.mk fu fi).join (.mk su si)) ++ (((c :: ks).set i (.mk du dj)).drop (IntKind.i64.wrap ((1 : Int) + 1)).toNat).take ((((c :: ks).set i (.mk du dj)).length : Int) - IntKind.i64.wrap ((1 : Int) + 1)).toNat)]] = [[D.lf (.bool (((c :: ks).set i (.mk du dj)).take (i - 1) ++ (resplit (.mk fu fi) (.mk su si) ++ ((c :: ks).set i (.mk du dj)).drop (i - 1 + 2))).isEmpty), D.row 2 RngX.ds [], D.row 3 (subE (n + 1)) (((c :: ks).set i (.mk du dj)).take (i - 1) ++ (resplit (.mk fu fi) (.mk su si) ++ ((c :: ks).set i (.mk du dj)).drop (i - 1 + 2)))]]
      rw [tg3, hw, hwp, List.drop_zero, List.nil_append, List.append_assoc, show (((i - 1 : Nat) : Int) - 0).toNat = i - 1 by omega, Int.toNat_natCast, List.take_of_length_le (show (((c :: ks).set i (.mk du dj)).drop (i - 1 + 2)).length ≤ _ by rw [List.length_drop]; omega), hne (by rw [List.length_append, List.length_append]; omega)]
    · have h9' : i ≠ 0 := by
        replace h9 : ((i : Int) == 0) = false := h9
        simpa using h9
      have hA : ((i : Int) : Int) = ((i - 1 + 1 : Nat) : Int) := by omega
      have hw : IntKind.i64.wrap (((i : Int) : Int) - 1) = ((i - 1 : Nat) : Int) := by rw [w64 (by omega) (by omega)]; omega
      have hwp : IntKind.i64.wrap (((i : Int) : Int) + 1) = ((i - 1 + 2 : Nat) : Int) := by rw [w64 (by omega) (by omega)]; omega
      conv => whnf
      refine ⟨by decide, (show 0 ≤ IntKind.i64.wrap (((i : Int) : Int) - 1) by rw [hw]; omega), (show IntKind.i64.wrap (((i : Int) : Int) - 1) ≤ (((c :: ks).set i (.mk du dj)).length : Int) by rw [hw, hLl]; omega), ?_⟩
      conv => whnf
      refine ⟨false, ?_⟩
      conv => whnf
      refine ⟨Tw, subE (n + 1), [], subE_len _, rfl, ?_⟩
      conv => whnf
      refine ⟨(((c :: ks).set i (.mk du dj)).drop 0).take (IntKind.i64.wrap (((i : Int) : Int) - 1) - 0).toNat, rfl, ?_, ?_⟩
      · show 0 + ((((c :: ks).set i (.mk du dj)).drop 0).take (IntKind.i64.wrap (((i : Int) : Int) - 1) - 0).toNat).length ≤ 4294967296
        rw [List.length_take, List.length_drop]; omega
      conv => whnf
      refine ⟨(ixE hw e1).1, (ixE hw e1).2, ?_⟩
      conv => whnf
      refine ex2 _ (nthE hw e1) ?_
      conv => whnf
      refine ⟨(ixE hA e2).1, (ixE hA e2).2, ?_⟩
      conv => whnf
      refine ex2 _ (nthE hA e2) ?_
      conv => whnf
      refine ⟨⟨n, .mk fu fi, .mk su si, tg1, tg2⟩, rfl, ?_⟩
      rintro _ _ ⟨rfl, rfl⟩
      conv => whnf
      repeat ((first | refine rc_i rfl ?_ | refine rc_i (fun _ => rfl) ?_); conv => whnf)
      refine ⟨splitT ((Tw.mk fu fi).join (.mk su si)), rfl, ?_, ?_⟩
      · show ([] ++ (((c :: ks).set i (.mk du dj)).drop 0).take (IntKind.i64.wrap (((i : Int) : Int) - 1) - 0).toNat).length + (splitT ((Tw.mk fu fi).join (.mk su si))).length ≤ 4294967296
        rw [List.nil_append, List.length_take, List.length_drop, tg3]; omega
      conv => whnf
      refine ⟨(show 0 ≤ IntKind.i64.wrap (((i : Int) : Int) + 1) by rw [hwp]; omega), (show IntKind.i64.wrap (((i : Int) : Int) + 1) ≤ (((c :: ks).set i (.mk du dj)).length : Int) by rw [hwp, hLl]; omega), Int.le_refl _, ?_⟩
      conv => whnf
      refine ⟨(((c :: ks).set i (.mk du dj)).drop (IntKind.i64.wrap (((i : Int) : Int) + 1)).toNat).take ((((c :: ks).set i (.mk du dj)).length : Int) - IntKind.i64.wrap (((i : Int) : Int) + 1)).toNat, rfl, ?_, ?_⟩
      · show ([] ++ (((c :: ks).set i (.mk du dj)).drop 0).take (IntKind.i64.wrap (((i : Int) : Int) - 1) - 0).toNat ++ splitT ((Tw.mk fu fi).join (.mk su si))).length + ((((c :: ks).set i (.mk du dj)).drop (IntKind.i64.wrap (((i : Int) : Int) + 1)).toNat).take ((((c :: ks).set i (.mk du dj)).length : Int) - IntKind.i64.wrap (((i : Int) : Int) + 1)).toNat).length ≤ 4294967296
        rw [List.nil_append, List.length_append, List.length_take, List.length_take, List.length_drop, List.length_drop, tg3]; omega
      conv => whnf
      refine ⟨2, RngX, RngX.ds, fun _ => rfl, ?_⟩
      conv => whnf
      refine ⟨⟨rfl, [], ((c :: ks).set i (.mk du dj)).take (i - 1) ++ (resplit (.mk fu fi) (.mk su si) ++ ((c :: ks).set i (.mk du dj)).drop (i - 1 + 2)), ?_, hdn⟩⟩
      show [[D.lf (.bool false), D.row 2 RngX.ds [], D.row 3 (subE (n + 1)) ([] ++ (((c :: ks).set i (.mk du dj)).drop 0).take (IntKind.i64.wrap (((i : Int) : Int) - 1) - 0).toNat ++ splitT ((Tw.mk fu fi).join (.mk su si)) ++ (((c :: ks).set i (.mk du dj)).drop (IntKind.i64.wrap (((i : Int) : Int) + 1)).toNat).take ((((c :: ks).set i (.mk du dj)).length : Int) - IntKind.i64.wrap (((i : Int) : Int) + 1)).toNat)]] = [[D.lf (.bool (((c :: ks).set i (.mk du dj)).take (i - 1) ++ (resplit (.mk fu fi) (.mk su si) ++ ((c :: ks).set i (.mk du dj)).drop (i - 1 + 2))).isEmpty), D.row 2 RngX.ds [], D.row 3 (subE (n + 1)) (((c :: ks).set i (.mk du dj)).take (i - 1) ++ (resplit (.mk fu fi) (.mk su si) ++ ((c :: ks).set i (.mk du dj)).drop (i - 1 + 2)))]]
      rw [tg3, hw, hwp, List.drop_zero, List.nil_append, List.append_assoc, show (((i - 1 : Nat) : Int) - 0).toNat = i - 1 by omega, Int.toNat_natCast, List.take_of_length_le (show (((c :: ks).set i (.mk du dj)).drop (i - 1 + 2)).length ≤ _ by rw [List.length_drop]; omega), hne (by rw [List.length_append, List.length_append]; omega)]
theorem sDrop_ok : FnOk Try.prog 146 cSDrop := fn_rec (fun a => a.d) fun n hs x hx => fnX_at tab_ok (SOk.cons hs (SOk.cons gh_ok (SOk.cons sWay_ok (SOk.cons sFew_ok (SOk.cons sTog_ok SOk.nil))))) mixed (fn := Try.f146) (code := body Try.f146) ⟨Try.func146, rfl, by kernel_rfl, by kernel_rfl, by kernel_rfl, by kernel_rfl⟩ (ev_sDrop n x hx)
end Go.Vm
namespace Go.Vm
open Go.Proofs
set_option maxRecDepth 100000
set_option linter.unusedVariables false
set_option linter.unusedSimpArgs false

theorem Low.topOk {d n : Nat} {y : Tw} (h : Low d y) (hd : d ≤ n + 1) (hl : y.all.length ≤ 4194304) : TopOk n y := by
  cases h with
  | leaf h2 => exact .inl ⟨_, rfl, h2⟩
  | node h1 h2 h3 =>
    rename_i d ks
    match ks, h1, h2, h3, hl with
    | [c], h1, h2, h3, hl =>
      have hc := h3 c (by simp)
      have := hc.root.manyR.2.2.1
      have e : (Tw.mk [] [c]).all = c.all := by simp [Tw.all, Tw.alls]
      rw [e] at hl
      exact .inr (.inl ⟨c, d, rfl, hc.root, by omega, by omega⟩)
    | c :: c2 :: r, h1, h2, h3, hl =>
      have hx : Shp true (d + 1) (.mk [] (c :: c2 :: r)) := .node (by simp) h2 h3
      have := hx.manyR.2.2.1
      exact .inr (.inr ⟨d, [], c, c2, r, rfl, hx, by omega, by omega⟩)
structure TDropOk (o : Option Tw) (x : Tw) (k : ByteArray) (d : Nat) : Prop where
  le : d ≤ 7
  shp : x = .mk [] [] ∧ d = 1 ∨ Shp true d x
  srt : Srt x.all
  top : (x.drop d k).top = dropO o k
  ok : TopOk 12 (x.drop d k)
theorem drop_root {o : Option Tw} {us : List RngX} {is : List Tw} (k : ByteArray) (ho : Vo o) (h : o = none ∧ us = [] ∧ is = [] ∨ o = some (.mk us is) ∧ ∃ d, Shp true d (.mk us is) ∧ d ≤ 7) : ∃ d, TDropOk o (.mk us is) k d := by
  rcases h with ⟨rfl, rfl, rfl⟩ | ⟨rfl, d, hd, hd7⟩
  · exact ⟨1, by omega, .inl ⟨rfl, rfl⟩, List.Pairwise.nil, rfl, .inl ⟨[], rfl, by simp⟩⟩
  · have hs : Srt (Tw.mk us is).all := ho.ok.srt
    have e := hd.deep
    obtain ⟨h1, h2⟩ := Tw.drop_ok k hd
    refine ⟨d, hd7, .inr hd, hs, by simp only [dropO, e], h1.topOk (by omega) ?_⟩
    rw [h2 hs]
    have := delL_len k (Tw.mk us is).all
    have : (Tw.mk us is).all.length ≤ 200 := ho.ok.len
    omega
structure TDropX where
  t : TreeX
  k : ByteArray
structure TDropR (N : List NodeX) (k : ByteArray) (N' : List NodeX) (ok : Bool) : Prop where
  yes : ∀ o, Vo o → N = layO o → keyOkB k = true → ok = true ∧ N' = layO (dropO o k)
  no : (TreeP N → keyOkB k = false) → ok = false ∧ N' = []
def cTreeDrop : Con := relC TDropX [(.rd, true), (.rd, false)] [true, false] (fun x => [[.row 3 NodeX.ds x.t.N], [.lf (.string x.k)]]) (fun x r => ∃ N' ok, r = [[.row 3 NodeX.ds N'], [.lf (.bool ok)]] ∧ TDropR x.t.N x.k N' ok)
theorem ev_sTreeDrop : ∀ x, evFnX tab [(57, cTreeOk), (142, cKeyOk), (131, cSRoot), (146, cSDrop), (145, cSTree)] cTreeDrop Try.f64 (body Try.f64) x := by
  rintro ⟨⟨N, f, hf, hN, hp⟩, k⟩
  replace hN : N.length ≤ 1048576 := hN
  conv => whnf
  refine ⟨⟨N, f, hf, hN, hp⟩, rfl, ?_⟩
  rintro _ _ ⟨rfl, b, rfl, e⟩
  conv => whnf
  replace e : b = true ↔ TreeP N := e
  cases b with
  | false =>
    have h1' : ¬ TreeP N := fun h => by have := e.2 h; cases this
    conv => whnf
    refine ⟨3, NodeX, NodeX.ds, fun _ => rfl, ?_⟩
    conv => whnf
    exact ⟨⟨rfl, [], false, rfl, fun o ho e _ => absurd ⟨o, ho, e⟩ h1', fun _ => ⟨rfl, rfl⟩⟩⟩
  | true =>
  have hT : TreeP N := e.1 rfl
  conv => whnf
  refine ⟨k, rfl, ?_⟩
  rintro _ _ ⟨rfl, rfl⟩
  conv => whnf
  cases hk : keyOkB k with
  | false =>
    conv => whnf
    refine ⟨3, NodeX, NodeX.ds, fun _ => rfl, ?_⟩
    conv => whnf
    exact ⟨⟨rfl, [], false, rfl, fun o ho e h => (by replace h : keyOkB k = true := h; rw [hk] at h; cases h), fun _ => ⟨rfl, rfl⟩⟩⟩
  | true =>
  conv => whnf
  refine ⟨⟨N, f, hf, hN, hp⟩, rfl, ?_⟩
  rintro _ _ ⟨rfl, o, ok, rfl, rs⟩
  obtain ⟨rfl, us, is, o', rfl, ho, e', hcase⟩ := root_tree rs hT
  obtain ⟨d, pk⟩ := drop_root k ho hcase
  conv => whnf
  refine ⟨⟨13, .mk us is, true, d, pk.shp, Nat.le_trans pk.le (by omega), k, pk.srt⟩, rfl, ?_⟩
  rintro _ _ ⟨rfl, du, dj, rfl, hdr⟩
  replace hdr : (Tw.mk us is).drop d k = .mk du dj := hdr
  have h1 := pk.top
  have h2 := pk.ok
  rw [hdr] at h1 h2
  conv => whnf
  refine ⟨⟨12, .mk du dj, h2⟩, rfl, ?_⟩
  rintro _ _ ⟨rfl, rfl⟩
  conv => whnf
  refine ⟨⟨rfl, _, true, rfl, fun o ho2 e2 _ => ⟨rfl, ?_⟩, fun h => ?_⟩⟩
  · have : o = o' := layO_inj (by rw [← e2, ← e'])
    subst this
    show layO (Tw.mk du dj).top = _
    rw [h1]
  · have := h hT
    replace this : keyOkB k = false := this
    rw [hk] at this; cases this
theorem sTreeDrop_ok : FnOk Try.prog 64 cTreeDrop := fnOk_of fun x => fnX_at tab_ok (SOk.cons sTreeOk_ok (SOk.cons sKeyOk_ok (SOk.cons sRoot_ok (SOk.cons sDrop_ok (SOk.cons sTree_ok SOk.nil))))) mixed (fn := Try.f64) (code := body Try.f64) ⟨Try.func64, rfl, by kernel_rfl, by kernel_rfl, by kernel_rfl, by kernel_rfl⟩ (ev_sTreeDrop x)
end Go.Vm
namespace Go.Vm
open Go.Proofs
set_option maxRecDepth 100000
set_option linter.unusedVariables false
set_option linter.unusedSimpArgs false

/-- Nodes that are small. -/
def nodeS (n : NodeX) : Prop := n.ps.length ≤ 5 ∧ n.keys.length ≤ 5 ∧ n.kids.length ≤ 5
mutual
theorem Shp.nodes : ∀ (x : Tw) {b : Bool} {d : Nat}, Shp b d x → ∀ (a : Nat), ∀ n ∈ x.lay a, n.ps.length ≤ 4 ∧ n.keys.length ≤ 4 ∧ n.kids.length ≤ 4
  | .mk ps ks, b, d, h, a, n, hn => by
    simp only [Tw.lay, List.mem_cons] at hn
    have h1 : ps.length ≤ 4 := by cases h <;> simp_all
    have h2 : ks.length ≤ 4 := by cases h <;> simp_all
    have h3 : ∀ k ∈ ks, ∃ b d, Shp b d k := by
      intro k hk
      cases h with
      | leaf => simp at hk
      | node _ _ h3 => exact ⟨_, _, h3 k hk⟩
    rcases hn with rfl | hn
    · refine ⟨h1, ?_, ?_⟩
      · simp; omega
      · rw [kidsAt_len]; exact h2
    · exact Shp.nodesL ks h3 _ n hn
theorem Shp.nodesL : ∀ (ks : List Tw), (∀ k ∈ ks, ∃ b d, Shp b d k) → ∀ (a : Nat), ∀ n ∈ Tw.lays ks a, n.ps.length ≤ 4 ∧ n.keys.length ≤ 4 ∧ n.kids.length ≤ 4
  | [], _, a, n, hn => by simp [Tw.lays] at hn
  | k :: ks, h, a, n, hn => by
    simp only [Tw.lays, List.mem_append] at hn
    rcases hn with hn | hn
    · obtain ⟨b, d, hk⟩ := h k (by simp)
      exact Shp.nodes k hk _ n hn
    · exact Shp.nodesL ks (fun k' hk' => h k' (by simp [hk'])) _ n hn
end
/-- A tree that is small, right or not. -/
structure SmallT (N : List NodeX) : Prop where
  len : N.length ≤ 201
  nodes : ∀ n ∈ N, nodeS n
theorem TreeP.small {N : List NodeX} (h : TreeP N) : N.length ≤ 200 ∧ ∀ n ∈ N, n.ps.length ≤ 4 ∧ n.keys.length ≤ 4 ∧ n.kids.length ≤ 4 := by
  obtain ⟨o, ho, rfl⟩ := h
  refine ⟨ho.lay_le, ?_⟩
  cases o with
  | none => intro n hn; simp [layO] at hn
  | some x =>
    obtain ⟨d, hd⟩ := ho.shp
    exact Shp.nodes x hd 0
theorem treeP_nil : TreeP [] := ⟨none, ⟨trivial, ⟨by simp [allO], fun p hp => by simp [allO] at hp, List.Pairwise.nil⟩⟩, rfl⟩
theorem TPutR.tree {N N' : List NodeX} {p : RngX} {ok : Bool} (h : TPutR N p N' ok) (hT : TreeP N) (hok : ok = true) : TreeP N' := by
  obtain ⟨o, ho, e⟩ := hT
  by_cases hk : kvOkB p = true ∧ (insL p (allO o)).length ≤ 200
  · obtain ⟨_, h2⟩ := h.yes o ho e hk.1 hk.2
    exact ⟨_, (ho.put hk.1 hk.2).1, h2⟩
  · have := (h.no fun o' ho' e' h1 h2 => by
      have : o' = o := layO_inj (by rw [← e', ← e])
      subst this
      exact hk ⟨h1, h2⟩).1
    rw [this] at hok; cases hok
theorem TDropR.tree {N N' : List NodeX} {k : ByteArray} {ok : Bool} (h : TDropR N k N' ok) (hT : TreeP N) : TreeP N' := by
  cases hk : keyOkB k with
  | true =>
    obtain ⟨o, ho, e⟩ := hT
    obtain ⟨_, h2⟩ := h.yes o ho e hk
    exact ⟨_, (ho.drop k).1, h2⟩
  | false =>
    rw [(h.no fun _ => hk).2]; exact treeP_nil
theorem ev_l02Val : ∀ x, evFnX tab [(125, cBelow), (78, cNumText)] (cDraw false strE (strP 60)) Try.f190 (body Try.f190) x := by
  intro c
  conv => whnf
  refine useBelow (c := c) (n := 12) rfl (by decide) fun c k k1 k2 _ => ?_
  conv => whnf
  refine br2 (fun h => ?_) (fun _ => ?_)
  · conv => whnf
    exact ⟨⟨c, ⟨#[]⟩, rfl, rfl, (show (0 : Nat) ≤ 60 by decide)⟩⟩
  conv => whnf
  refine br2 (fun h => ?_) (fun _ => ?_)
  · conv => whnf
    refine ⟨by decide, rfl, by decide, ?_⟩
    conv => whnf
    refine ⟨UInt8, encB, 0, fun _ => rfl, rfl, ?_⟩
    conv => whnf
    refine ⟨List.replicate (60 : Int).toNat 0, rfl, ?_⟩
    conv => whnf
    refine ⟨⟨c, _, rfl, rfl, ?_⟩⟩
    show (List.replicate (60 : Int).toNat (0 : UInt8)).toArray.size ≤ 60
    simp
  conv => whnf
  refine useBelow (c := c) (n := 50) rfl (by decide) fun c v a1 a2 _ => ?_
  replace a2 : v < 50 := a2 (by decide)
  conv => whnf
  refine ⟨⟨v, by omega, by omega⟩, rfl, ?_⟩
  rintro _ _ ⟨rfl, rfl⟩
  have hs := numT_size v
  conv => whnf
  refine ⟨(show 1 + (numT v).size ≤ 4294967296 by omega), ?_⟩
  conv => whnf
  refine ⟨⟨c, ⟨#[118]⟩ ++ numT v, rfl, rfl, ?_⟩⟩
  show (ByteArray.mk #[118] ++ numT v).size ≤ 60
  rw [ByteArray.size_append]
  show 1 + (numT v).size ≤ 60
  omega
theorem l02Val_ok : FnOk Try.prog 190 (cDraw false strE (strP 60)) := fnOk_of fun x => fnX_at tab_ok (SOk.cons l01Below_ok (SOk.cons sNumText_ok SOk.nil)) mixed (fn := Try.f190) (code := body Try.f190) ⟨Try.func190, rfl, by kernel_rfl, by kernel_rfl, by kernel_rfl, by kernel_rfl⟩ (ev_l02Val x)
end Go.Vm
namespace Go.Vm
open Go.Proofs
set_option maxRecDepth 100000
set_option linter.unusedVariables false
set_option linter.unusedSimpArgs false

def nm (d : Nat) : Nat := 16 * (300000 + 8 * d)
structure DrwX where
  c : CurX
  n : Int
  h0 : 0 ≤ n
  h1 : n ≤ 1000
def cTDraw : Con := { X := DrwX, params := [(.mut, false), (.rd, false)], res := [true], resOwn := true, ins := fun x => [[x.c.d], [.lf (.int .i64 x.n)]], post := fun _ outs r => ∃ (c : CurX) (N : List NodeX), outs = [[c.d]] ∧ r = [[.row 3 NodeX.ds N]] ∧ TreeP N }
theorem ev_l03Draw : ∀ x, evFnX tab [(1000002, cGh), (125, cBelow), (181, (cDraw false strE (strP 16))), (190, (cDraw false strE (strP 60))), (64, cTreeDrop), (72, cTreePut)] cTDraw Try.f139 (body Try.f139) x := by
  rintro ⟨c, n, h0, h1⟩
  conv => whnf
  refine ⟨[.nlc 80 0 0 100], ?_⟩
  conv => whnf
  refine ⟨3, NodeX, NodeX.ds, fun _ => rfl, ?_⟩
  conv => whnf
  have hw : IntKind.i64.wrap (n + 1) = n + 1 := w64 (by omega) (by omega)
  refine useBelow (c := c) (n := IntKind.i64.wrap (n + 1)) rfl (by rw [hw]; omega) fun c v v1 v2 _ => ?_
  replace v2 : v < n + 1 := by rw [hw] at v2; exact v2 (by omega)
  clear hw
  obtain ⟨i, rfl⟩ : ∃ i : Nat, v = i := ⟨v.toNat, by omega⟩
  conv => whnf
  let S (i : Nat) : Sl := [(6, .lf (.int .i64 i)), (5, .pt 80 0 0), (4, .pt 64 0 0), (1000000, .pt 0 0 0), (0, .pt 0 0 0)]
  let H (c : CurX) (N : List NodeX) : Hp := [(3200, some (.row .ro 1 encB c.b)), (0, some (.arr true 3 [[.sl 3200 none, .lf (.int .i64 c.i), .lf (.int .i64 c.h)]])), (1600, some (.row .own 3 NodeX.ds N)),
    (80, some (.arr true 1 [[.sl 1600 none]])), (64, some (.arr true 1 [[.lf (.slice none 0 0)]]))]
  refine ⟨fun m s h => ∃ (c : CurX) (i : Nat) (N : List NodeX), i ≤ 1001 ∧ TreeP N ∧ m = i ∧ s = S i ∧ h = H c N, i, [(nm 13, 3200), (0, 0), (1600, 1600), (80, 80), (64, 64)], S i, H c [], ⟨rfl, ⟨rfl, rfl, rfl, rfl, rfl, trivial⟩, rfl, rfl, rfl, rfl, rfl, trivial⟩, ⟨c, i, [], by omega, treeP_nil, rfl, rfl, rfl⟩, ?_⟩
  rintro m _ _ ⟨c, i, N, g1, hT, rfl, rfl, rfl⟩
  have hsm := hT.small
  have hN : N.length ≤ 1048576 := by omega
  have hp : ∀ n ∈ N, n.ps.length ≤ 1048576 := fun n hn => by have := (hsm.2 n hn).1; omega
  conv => whnf
  refine br2 (fun h2 => ?_) (fun h2 => ?_)
  · have h2' : 1 ≤ m := by have := of_decide_eq_true h2; omega
    have hw1 : V.lf (.int .i64 (IntKind.i64.wrap ((m : Int) - 1))) = V.lf (.int .i64 ((m - 1 : Nat) : Int)) := by rw [w64 (by omega) (by omega)]; congr 2; omega
    conv => whnf
    refine useBelow (c := c) (n := 5) rfl (by decide) fun c v a1 a2 _ => ?_
    conv => whnf
    refine br2 (fun h3 => ?_) (fun h3 => ?_)
    · conv => whnf
      repeat ((first | refine rc_i rfl ?_ | refine rc_i (fun _ => rfl) ?_); conv => whnf)
      refine useDraw (c := c) rfl fun c k hk => ?_
      conv => whnf
      repeat ((first | refine rc_i rfl ?_ | refine rc_i (fun _ => rfl) ?_); conv => whnf)
      refine ⟨⟨⟨N, N.length, Nat.le_refl _, hN, hp⟩, k⟩, rfl, ?_⟩
      rintro _ _ ⟨rfl, N', ok, rfl, hr⟩
      have hT' := TDropR.tree hr hT
      conv => whnf
      repeat ((first | refine rc_i rfl ?_ | refine rc_i (fun _ => rfl) ?_); conv => whnf)
      exact ⟨m - 1, [(nm 24, 3200), (0, 0), (400, 1600), (80, 80), (64, 64)], S (m - 1), H c N', by omega, ⟨rfl, ⟨hw1, rfl, rfl, rfl, rfl, trivial⟩, rfl, rfl, rfl, rfl, rfl, trivial⟩, c, m - 1, N', by omega, hT', rfl, rfl, rfl⟩
    · conv => whnf
      repeat ((first | refine rc_i rfl ?_ | refine rc_i (fun _ => rfl) ?_); conv => whnf)
      refine useDraw (c := c) rfl fun c k hk => ?_
      conv => whnf
      repeat ((first | refine rc_i rfl ?_ | refine rc_i (fun _ => rfl) ?_); conv => whnf)
      refine useDraw (c := c) rfl fun c q hq => ?_
      conv => whnf
      repeat ((first | refine rc_i rfl ?_ | refine rc_i (fun _ => rfl) ?_); conv => whnf)
      refine ⟨⟨⟨N, N.length, Nat.le_refl _, hN, hp⟩, k, q⟩, rfl, ?_⟩
      rintro _ _ ⟨rfl, N', ok, rfl, hr⟩
      cases ok with
      | true =>
        have hT' := TPutR.tree hr hT rfl
        conv => whnf
        repeat ((first | refine rc_i rfl ?_ | refine rc_i (fun _ => rfl) ?_); conv => whnf)
        exact ⟨m - 1, [(nm 33, 3200), (0, 0), (544, 1600), (80, 80), (64, 64)], S (m - 1), H c N', by omega, ⟨rfl, ⟨hw1, rfl, rfl, rfl, rfl, trivial⟩, rfl, rfl, rfl, rfl, rfl, trivial⟩, c, m - 1, N', by omega, hT', rfl, rfl, rfl⟩
      | false =>
        conv => whnf
        repeat ((first | refine rc_i rfl ?_ | refine rc_i (fun _ => rfl) ?_); conv => whnf)
        exact ⟨m - 1, [(nm 33, 3200), (0, 0), (1600, 1600), (80, 80), (64, 64)], S (m - 1), H c N, by omega, ⟨rfl, ⟨hw1, rfl, rfl, rfl, rfl, trivial⟩, rfl, rfl, rfl, rfl, rfl, trivial⟩, c, m - 1, N, by omega, hT, rfl, rfl, rfl⟩
  · conv => whnf
    exact ⟨⟨c, N, rfl, rfl, hT⟩⟩
theorem l03Draw_ok : FnOk Try.prog 139 cTDraw := fnOk_of fun x => fnX_at tab_ok (SOk.cons gh_ok (SOk.cons l01Below_ok (SOk.cons l02Key_ok (SOk.cons l02Val_ok (SOk.cons sTreeDrop_ok (SOk.cons sTreePut_ok SOk.nil)))))) mixed (fn := Try.f139) (code := body Try.f139) ⟨Try.func139, rfl, by kernel_rfl, by kernel_rfl, by kernel_rfl, by kernel_rfl⟩ (ev_l03Draw x)
end Go.Vm
namespace Go.Vm
open Go.Proofs
set_option maxRecDepth 100000
set_option linter.unusedVariables false
set_option linter.unusedSimpArgs false

theorem ev_l02AnyKey : ∀ x, evFnX tab [(125, cBelow), (181, (cDraw false strE (strP 16)))] (cDraw false strE (strP 17)) Try.f144 (body Try.f144) x := by
  intro c
  conv => whnf
  refine useBelow (c := c) (n := 8) rfl (by decide) fun c k k1 k2 _ => ?_
  conv => whnf
  refine br2 (fun h => ?_) (fun _ => ?_)
  · conv => whnf
    refine useBelow (c := c) (n := 4) rfl (by decide) fun c v a1 a2 _ => ?_
    replace a2 : v < 4 := a2 (by decide)
    conv => whnf
    refine ⟨a1, a2, ?_⟩
    conv => whnf
    refine exStr 17 rfl (show v.toNat < 4 by omega) fun s hs => ?_
    conv => whnf
    exact ⟨⟨c, s, rfl, rfl, hs⟩⟩
  conv => whnf
  refine useDraw (c := c) rfl fun c s hs => ?_
  replace hs : s.size ≤ 16 := hs
  conv => whnf
  exact ⟨⟨c, s, rfl, rfl, (show s.size ≤ 17 by omega)⟩⟩
theorem l02AnyKey_ok : FnOk Try.prog 144 (cDraw false strE (strP 17)) := fnOk_of fun x => fnX_at tab_ok (SOk.cons l01Below_ok (SOk.cons l02Key_ok SOk.nil)) mixed (fn := Try.f144) (code := body Try.f144) ⟨Try.func144, rfl, by kernel_rfl, by kernel_rfl, by kernel_rfl, by kernel_rfl⟩ (ev_l02AnyKey x)
end Go.Vm
namespace Go.Vm
open Go.Proofs
set_option maxRecDepth 100000
set_option linter.unusedVariables false
set_option linter.unusedSimpArgs false

def cTAny : Con := { X := CurX, params := [(.mut, false)], res := [true], resOwn := false, ins := fun c => [[c.d]], post := fun _ outs r => ∃ (c : CurX) (N : List NodeX), outs = [[c.d]] ∧ r = [[.row 3 NodeX.ds N]] ∧ SmallT N }
theorem SmallT.set {N : List NodeX} (h : SmallT N) {i : Nat} {y : NodeX} (hy : nodeS y) : SmallT (N.set i y) := ⟨by rw [List.length_set]; exact h.len, fun n hn => by
  rcases List.mem_or_eq_of_mem_set hn with hn | rfl
  · exact h.nodes n hn
  · exact hy⟩
theorem ev_l03Any : ∀ x, evFnX tab [(1000008, cGh), (1000009, cGh), (1000011, cGh), (1000013, cGh), (1000014, cGh), (1000015, cGh), (1000017, cGh), (1000019, cGh), (139, cTDraw), (125, cBelow), (126, (cDraw false intE intP)), (144, (cDraw false strE (strP 17))), (181, (cDraw false strE (strP 16)))] cTAny Try.f123 (body Try.f123) x := by
  intro c
  conv => whnf
  refine ⟨⟨c, 40, by decide, by decide⟩, rfl, ?_⟩
  rintro _ _ ⟨c, N, rfl, rfl, hT⟩
  have hsm := hT.small
  have hS : SmallT N := ⟨by omega, fun n hn => by obtain ⟨a, b, c⟩ := hsm.2 n hn; exact ⟨by omega, by omega, by omega⟩⟩
  conv => whnf
  refine useBelow (c := c) (n := 16) rfl (by decide) fun c k k1 k2 _ => ?_
  conv => whnf
  intro _
  conv => whnf
  refine br2 (fun h1 => ?_) (fun h1 => ?_)
  · conv => whnf
    exact ⟨⟨c, N, rfl, rfl, hS⟩⟩
  have h1' : 1 ≤ N.length := by
    replace h1 : ((N.length : Int) == 0) = false := h1
    simp at h1
    cases N with
    | nil => exact absurd rfl h1
    | cons => simp
  conv => whnf
  refine useBelow (c := c) (n := (N.length : Int)) rfl (by omega) fun c v v1 v2 _ => ?_
  replace v2 : v < N.length := v2 (by omega)
  obtain ⟨i, rfl⟩ : ∃ i : Nat, v = i := ⟨v.toNat, by omega⟩
  obtain ⟨y, hy⟩ := getL (l := N) (j := i) (by omega)
  have hyS := hsm.2 y (List.mem_of_getElem? hy)
  obtain ⟨ps, keys, kids⟩ := y
  obtain ⟨y1, y2, y3⟩ : ps.length ≤ 4 ∧ keys.length ≤ 4 ∧ kids.length ≤ 4 := hyS
  by_cases e0 : k = 0
  · subst e0
    conv => whnf
    refine ⟨[.foc 128 i 1000], ?_⟩
    conv => whnf
    refine ex2 _ (by rw [nth_eq]; exact hy) ?_
    conv => whnf
    refine ⟨Int.natCast_nonneg _, ltI hy, ?_⟩
    conv => whnf
    refine ⟨Int.toNat_natCast i, ?_⟩
    conv => whnf
    repeat (refine rc_i (by (conv => whnf); first | rfl | exact fun _ => rfl | exact ⟨Int.natCast_nonneg _, ltI hy, rfl⟩ | exact ⟨Int.toNat_natCast i, rfl⟩) ?_; conv => whnf)
    refine ⟨[⟨#[113]⟩], rfl, (by show keys.length + 1 ≤ 4294967296; omega), ?_⟩
    conv => whnf
    repeat (refine rc_i (by (conv => whnf); first | rfl | exact fun _ => rfl | exact ⟨Int.natCast_nonneg _, ltI hy, rfl⟩ | exact ⟨Int.toNat_natCast i, rfl⟩) ?_; conv => whnf)
    refine ⟨Int.natCast_nonneg _, ltI hy, ?_⟩
    conv => whnf
    repeat (refine rc_i (by (conv => whnf); first | rfl | exact fun _ => rfl | exact ⟨Int.natCast_nonneg _, ltI hy, rfl⟩ | exact ⟨Int.toNat_natCast i, rfl⟩) ?_; conv => whnf)
    refine ⟨Int.toNat_natCast i, ?_⟩
    conv => whnf
    refine ⟨[.unf 128], ?_⟩
    conv => whnf
    refine ⟨⟨ps, keys ++ [⟨#[113]⟩], kids⟩, rfl, ?_⟩
    conv => whnf
    refine ⟨[], ?_⟩
    conv => whnf
    refine ⟨[], ?_⟩
    conv => whnf
    refine ⟨[], ?_⟩
    conv => whnf
    refine ⟨[], ?_⟩
    conv => whnf
    refine ⟨[], ?_⟩
    conv => whnf
    exact ⟨⟨c, N.set i ⟨ps, keys ++ [⟨#[113]⟩], kids⟩, rfl, rfl, hS.set ⟨by show ps.length ≤ 5; omega, by show (keys ++ [_]).length ≤ 5; simp; omega, by show kids.length ≤ 5; omega⟩⟩⟩
  by_cases e1 : k = 1
  · subst e1
    conv => whnf
    refine ⟨[.foc 128 i 1000], ?_⟩
    conv => whnf
    refine ex2 _ (by rw [nth_eq]; exact hy) ?_
    conv => whnf
    refine ⟨Int.natCast_nonneg _, ltI hy, ?_⟩
    conv => whnf
    refine ⟨Int.toNat_natCast i, ?_⟩
    conv => whnf
    intro _
    conv => whnf
    refine br2 (fun h2 => ?_) (fun h2 => ?_)
    · have hz : 0 < ps.length := by
        have h3 : ((ps.length : Nat) : Int) > 0 := of_decide_eq_true h2
        omega
      obtain ⟨z, zs, rfl⟩ : ∃ z zs, ps = z :: zs := by cases ps with | nil => simp at hz | cons z zs => exact ⟨z, zs, rfl⟩
      conv => whnf
      refine ⟨Int.natCast_nonneg _, ltI hy, ?_⟩
      conv => whnf
      repeat (refine rc_i (by (conv => whnf); first | rfl | exact fun _ => rfl | exact ⟨Int.natCast_nonneg _, ltI hy, rfl⟩ | exact ⟨Int.toNat_natCast i, rfl⟩) ?_; conv => whnf)
      refine ⟨Int.toNat_natCast i, ?_⟩
      conv => whnf
      repeat (refine rc_i (by (conv => whnf); first | rfl | exact fun _ => rfl | exact ⟨Int.natCast_nonneg _, ltI hy, rfl⟩ | exact ⟨Int.toNat_natCast i, rfl⟩) ?_; conv => whnf)
      refine useDraw (c := c) rfl fun c s hs => ?_
      conv => whnf
      repeat (refine rc_i (by (conv => whnf); first | rfl | exact fun _ => rfl | exact ⟨Int.natCast_nonneg _, ltI hy, rfl⟩ | exact ⟨Int.toNat_natCast i, rfl⟩) ?_; conv => whnf)
      refine ⟨Int.le_refl _, (show (0 : Int) < ((z :: zs).length : Nat) by simp), ?_⟩
      conv => whnf
      repeat (refine rc_i (by (conv => whnf); first | rfl | exact fun _ => rfl | exact ⟨Int.natCast_nonneg _, ltI hy, rfl⟩ | exact ⟨Int.toNat_natCast i, rfl⟩) ?_; conv => whnf)
      refine ⟨⟨s, z.hi⟩, rfl, ?_⟩
      conv => whnf
      refine ⟨[.unf 128], ?_⟩
      conv => whnf
      refine ⟨⟨⟨s, z.hi⟩ :: zs, keys, kids⟩, rfl, ?_⟩
      conv => whnf
      refine ⟨[], ?_⟩
      conv => whnf
      refine ⟨[], ?_⟩
      conv => whnf
      refine ⟨[], ?_⟩
      conv => whnf
      refine ⟨[], ?_⟩
      conv => whnf
      exact ⟨⟨c, N.set i ⟨⟨s, z.hi⟩ :: zs, keys, kids⟩, rfl, rfl, hS.set ⟨by show (_ :: zs).length ≤ 5; simp at y1 ⊢; omega, by show keys.length ≤ 5; omega, by show kids.length ≤ 5; omega⟩⟩⟩
    · conv => whnf
      refine ⟨[.unf 128], ?_⟩
      conv => whnf
      refine ⟨⟨ps, keys, kids⟩, rfl, ?_⟩
      conv => whnf
      refine ⟨[], ?_⟩
      conv => whnf
      refine ⟨[], ?_⟩
      conv => whnf
      refine ⟨[], ?_⟩
      conv => whnf
      refine ⟨[], ?_⟩
      conv => whnf
      exact ⟨⟨c, N.set i ⟨ps, keys, kids⟩, rfl, rfl, hS.set ⟨by show ps.length ≤ 5; omega, by show keys.length ≤ 5; omega, by show kids.length ≤ 5; omega⟩⟩⟩
  by_cases e2 : k = 2
  · subst e2
    conv => whnf
    refine ⟨[], ?_⟩
    conv => whnf
    refine ⟨[.foc 128 i 1000], ?_⟩
    conv => whnf
    refine ex2 _ (by rw [nth_eq]; exact hy) ?_
    conv => whnf
    refine ⟨Int.natCast_nonneg _, ltI hy, ?_⟩
    conv => whnf
    refine ⟨Int.toNat_natCast i, ?_⟩
    conv => whnf
    intro _
    conv => whnf
    refine br2 (fun h2 => ?_) (fun h2 => ?_)
    · have hz : 0 < kids.length := by
        have h3 : ((kids.length : Nat) : Int) > 0 := of_decide_eq_true h2
        omega
      obtain ⟨z, zs, rfl⟩ : ∃ z zs, kids = z :: zs := by cases kids with | nil => simp at hz | cons z zs => exact ⟨z, zs, rfl⟩
      conv => whnf
      refine ⟨Int.natCast_nonneg _, ltI hy, ?_⟩
      conv => whnf
      repeat (refine rc_i (by (conv => whnf); first | rfl | exact fun _ => rfl | exact ⟨Int.natCast_nonneg _, ltI hy, rfl⟩ | exact ⟨Int.toNat_natCast i, rfl⟩) ?_; conv => whnf)
      refine ⟨Int.toNat_natCast i, ?_⟩
      conv => whnf
      repeat (refine rc_i (by (conv => whnf); first | rfl | exact fun _ => rfl | exact ⟨Int.natCast_nonneg _, ltI hy, rfl⟩ | exact ⟨Int.toNat_natCast i, rfl⟩) ?_; conv => whnf)
      refine useDraw (c := c) rfl fun c s hs => ?_
      conv => whnf
      repeat (refine rc_i (by (conv => whnf); first | rfl | exact fun _ => rfl | exact ⟨Int.natCast_nonneg _, ltI hy, rfl⟩ | exact ⟨Int.toNat_natCast i, rfl⟩) ?_; conv => whnf)
      refine ⟨Int.le_refl _, (show (0 : Int) < ((z :: zs).length : Nat) by simp), ?_⟩
      conv => whnf
      repeat (refine rc_i (by (conv => whnf); first | rfl | exact fun _ => rfl | exact ⟨Int.natCast_nonneg _, ltI hy, rfl⟩ | exact ⟨Int.toNat_natCast i, rfl⟩) ?_; conv => whnf)
      refine ⟨s, rfl, ?_⟩
      conv => whnf
      refine ⟨[.unf 128], ?_⟩
      conv => whnf
      refine ⟨⟨ps, keys, s :: zs⟩, rfl, ?_⟩
      conv => whnf
      refine ⟨[], ?_⟩
      conv => whnf
      refine ⟨[], ?_⟩
      conv => whnf
      refine ⟨[], ?_⟩
      conv => whnf
      exact ⟨⟨c, N.set i ⟨ps, keys, s :: zs⟩, rfl, rfl, hS.set ⟨by show ps.length ≤ 5; omega, by show keys.length ≤ 5; omega, by show (_ :: zs).length ≤ 5; simp at y3 ⊢; omega⟩⟩⟩
    · conv => whnf
      refine ⟨[.unf 128], ?_⟩
      conv => whnf
      refine ⟨⟨ps, keys, kids⟩, rfl, ?_⟩
      conv => whnf
      refine ⟨[], ?_⟩
      conv => whnf
      refine ⟨[], ?_⟩
      conv => whnf
      refine ⟨[], ?_⟩
      conv => whnf
      exact ⟨⟨c, N.set i ⟨ps, keys, kids⟩, rfl, rfl, hS.set ⟨by show ps.length ≤ 5; omega, by show keys.length ≤ 5; omega, by show kids.length ≤ 5; omega⟩⟩⟩
  by_cases e3 : k = 3
  · subst e3
    conv => whnf
    refine ⟨[], ?_⟩
    conv => whnf
    refine ⟨[], ?_⟩
    conv => whnf
    refine ⟨[], ?_⟩
    conv => whnf
    refine ⟨[.mixr 128], ?_⟩
    conv => whnf
    refine ⟨Int.natCast_nonneg _, ltI hy, ?_⟩
    conv => whnf
    refine ex2 _ (nthI hy) ?_
    conv => whnf
    repeat (refine rc_i (by (conv => whnf); first | rfl | exact fun _ => rfl | exact ⟨Int.natCast_nonneg _, ltI hy, rfl⟩ | exact ⟨Int.toNat_natCast i, rfl⟩) ?_; conv => whnf)
    refine ⟨[⟨ps, keys, kids⟩], rfl, (by show N.length + 1 ≤ 4294967296; omega), ?_⟩
    conv => whnf
    repeat (refine rc_i (by (conv => whnf); first | rfl | exact fun _ => rfl | exact ⟨Int.natCast_nonneg _, ltI hy, rfl⟩ | exact ⟨Int.toNat_natCast i, rfl⟩) ?_; conv => whnf)
    refine ⟨[], ?_⟩
    conv => whnf
    refine ⟨[], ?_⟩
    conv => whnf
    refine ⟨[], ?_⟩
    conv => whnf
    refine ⟨⟨c, N ++ [⟨ps, keys, kids⟩], rfl, rfl, by rw [List.length_append]; show N.length + 1 ≤ 201; omega, fun n hn => ?_⟩⟩
    rcases List.mem_append.1 hn with hn | hn
    · exact hS.nodes n hn
    · obtain rfl : n = ⟨ps, keys, kids⟩ := by simpa using hn
      exact ⟨by show ps.length ≤ 5; omega, by show keys.length ≤ 5; omega, by show kids.length ≤ 5; omega⟩
  by_cases e4 : k = 4
  · subst e4
    conv => whnf
    refine ⟨[], ?_⟩
    conv => whnf
    refine ⟨[], ?_⟩
    conv => whnf
    refine ⟨[], ?_⟩
    conv => whnf
    refine ⟨[.foc 128 i 1000], ?_⟩
    conv => whnf
    refine ex2 _ (by rw [nth_eq]; exact hy) ?_
    conv => whnf
    refine ⟨Int.natCast_nonneg _, ltI hy, ?_⟩
    conv => whnf
    refine ⟨Int.toNat_natCast i, ?_⟩
    conv => whnf
    intro _
    conv => whnf
    refine br2 (fun h2 => ?_) (fun h2 => ?_)
    · have hz : 0 < keys.length := by
        have h3 : ((keys.length : Nat) : Int) > 0 := of_decide_eq_true h2
        omega
      obtain ⟨z, zs, rfl⟩ : ∃ z zs, keys = z :: zs := by cases keys with | nil => simp at hz | cons z zs => exact ⟨z, zs, rfl⟩
      conv => whnf
      refine ⟨Int.natCast_nonneg _, ltI hy, ?_⟩
      conv => whnf
      repeat (refine rc_i (by (conv => whnf); first | rfl | exact fun _ => rfl | exact ⟨Int.natCast_nonneg _, ltI hy, rfl⟩ | exact ⟨Int.toNat_natCast i, rfl⟩) ?_; conv => whnf)
      refine ⟨Int.toNat_natCast i, ?_⟩
      conv => whnf
      repeat (refine rc_i (by (conv => whnf); first | rfl | exact fun _ => rfl | exact ⟨Int.natCast_nonneg _, ltI hy, rfl⟩ | exact ⟨Int.toNat_natCast i, rfl⟩) ?_; conv => whnf)
      refine useDraw (c := c) rfl fun c s hs => ?_
      conv => whnf
      repeat (refine rc_i (by (conv => whnf); first | rfl | exact fun _ => rfl | exact ⟨Int.natCast_nonneg _, ltI hy, rfl⟩ | exact ⟨Int.toNat_natCast i, rfl⟩) ?_; conv => whnf)
      refine ⟨Int.le_refl _, (show (0 : Int) < ((z :: zs).length : Nat) by simp), ?_⟩
      conv => whnf
      repeat (refine rc_i (by (conv => whnf); first | rfl | exact fun _ => rfl | exact ⟨Int.natCast_nonneg _, ltI hy, rfl⟩ | exact ⟨Int.toNat_natCast i, rfl⟩) ?_; conv => whnf)
      refine ⟨s, rfl, ?_⟩
      conv => whnf
      refine ⟨[.unf 128], ?_⟩
      conv => whnf
      refine ⟨⟨ps, s :: zs, kids⟩, rfl, ?_⟩
      conv => whnf
      refine ⟨[], ?_⟩
      conv => whnf
      exact ⟨⟨c, N.set i ⟨ps, s :: zs, kids⟩, rfl, rfl, hS.set ⟨by show ps.length ≤ 5; omega, by show (_ :: zs).length ≤ 5; simp at y2 ⊢; omega, by show kids.length ≤ 5; omega⟩⟩⟩
    · conv => whnf
      refine ⟨[.unf 128], ?_⟩
      conv => whnf
      refine ⟨⟨ps, keys, kids⟩, rfl, ?_⟩
      conv => whnf
      refine ⟨[], ?_⟩
      conv => whnf
      exact ⟨⟨c, N.set i ⟨ps, keys, kids⟩, rfl, rfl, hS.set ⟨by show ps.length ≤ 5; omega, by show keys.length ≤ 5; omega, by show kids.length ≤ 5; omega⟩⟩⟩
  by_cases e5 : k = 5
  · subst e5
    conv => whnf
    refine ⟨[], ?_⟩
    conv => whnf
    refine ⟨[], ?_⟩
    conv => whnf
    refine ⟨[], ?_⟩
    conv => whnf
    refine ⟨[], ?_⟩
    conv => whnf
    refine ⟨[.foc 128 i 1000], ?_⟩
    conv => whnf
    refine ex2 _ (by rw [nth_eq]; exact hy) ?_
    conv => whnf
    refine ⟨Int.natCast_nonneg _, ltI hy, ?_⟩
    conv => whnf
    refine ⟨Int.toNat_natCast i, ?_⟩
    conv => whnf
    intro _
    conv => whnf
    refine br2 (fun h2 => ?_) (fun h2 => ?_)
    · have hz : 0 < ps.length := by
        have h3 : ((ps.length : Nat) : Int) > 0 := of_decide_eq_true h2
        omega
      conv => whnf
      refine ⟨Int.natCast_nonneg _, ltI hy, ?_⟩
      conv => whnf
      repeat (refine rc_i (by (conv => whnf); first | rfl | exact fun _ => rfl | exact ⟨Int.natCast_nonneg _, ltI hy, rfl⟩ | exact ⟨Int.toNat_natCast i, rfl⟩) ?_; conv => whnf)
      refine ⟨Int.toNat_natCast i, ?_⟩
      conv => whnf
      repeat (refine rc_i (by (conv => whnf); first | rfl | exact fun _ => rfl | exact ⟨Int.natCast_nonneg _, ltI hy, rfl⟩ | exact ⟨Int.toNat_natCast i, rfl⟩) ?_; conv => whnf)
      refine ⟨by decide, (show (1 : Int) ≤ (ps.length : Int) by omega), Int.le_refl _, ?_⟩
      conv => whnf
      repeat (refine rc_i (by (conv => whnf); first | rfl | exact fun _ => rfl | exact ⟨Int.natCast_nonneg _, ltI hy, rfl⟩ | exact ⟨Int.toNat_natCast i, rfl⟩) ?_; conv => whnf)
      refine ⟨Int.natCast_nonneg _, ltI hy, ?_⟩
      conv => whnf
      repeat (refine rc_i (by (conv => whnf); first | rfl | exact fun _ => rfl | exact ⟨Int.natCast_nonneg _, ltI hy, rfl⟩ | exact ⟨Int.toNat_natCast i, rfl⟩) ?_; conv => whnf)
      refine ⟨Int.toNat_natCast i, ?_⟩
      conv => whnf
      refine ⟨[.unf 128], ?_⟩
      conv => whnf
      refine ⟨⟨(ps.drop 1).take ((ps.length : Int) - 1).toNat, keys, kids⟩, rfl, ?_⟩
      conv => whnf
      exact ⟨⟨c, N.set i ⟨(ps.drop 1).take ((ps.length : Int) - 1).toNat, keys, kids⟩, rfl, rfl, hS.set ⟨by show ((ps.drop 1).take _).length ≤ 5; simp; omega, by show keys.length ≤ 5; omega, by show kids.length ≤ 5; omega⟩⟩⟩
    · conv => whnf
      refine ⟨[.unf 128], ?_⟩
      conv => whnf
      refine ⟨⟨ps, keys, kids⟩, rfl, ?_⟩
      conv => whnf
      exact ⟨⟨c, N.set i ⟨ps, keys, kids⟩, rfl, rfl, hS.set ⟨by show ps.length ≤ 5; omega, by show keys.length ≤ 5; omega, by show kids.length ≤ 5; omega⟩⟩⟩
  conv => whnf
  refine br2 (fun q => ?_) (fun q => ?_)
  · exact absurd (eq_of_beq q) e0
  conv => whnf
  refine ⟨[], ?_⟩
  conv => whnf
  refine br2 (fun q => ?_) (fun q => ?_)
  · exact absurd (eq_of_beq q) e1
  conv => whnf
  refine ⟨[], ?_⟩
  conv => whnf
  refine br2 (fun q => ?_) (fun q => ?_)
  · exact absurd (eq_of_beq q) e2
  conv => whnf
  refine ⟨[], ?_⟩
  conv => whnf
  refine br2 (fun q => ?_) (fun q => ?_)
  · exact absurd (eq_of_beq q) e3
  conv => whnf
  refine ⟨[], ?_⟩
  conv => whnf
  refine br2 (fun q => ?_) (fun q => ?_)
  · exact absurd (eq_of_beq q) e4
  conv => whnf
  refine ⟨[], ?_⟩
  conv => whnf
  refine br2 (fun q => ?_) (fun q => ?_)
  · exact absurd (eq_of_beq q) e5
  conv => whnf
  refine ⟨[], ?_⟩
  conv => whnf
  exact ⟨⟨c, N, rfl, rfl, hS⟩⟩
theorem l03Any_ok : FnOk Try.prog 123 cTAny := fnOk_of fun x => fnX_at tab_ok (SOk.cons gh_ok (SOk.cons gh_ok (SOk.cons gh_ok (SOk.cons gh_ok (SOk.cons gh_ok (SOk.cons gh_ok (SOk.cons gh_ok (SOk.cons gh_ok (SOk.cons l03Draw_ok (SOk.cons l01Below_ok (SOk.cons l01Raw_ok (SOk.cons l02AnyKey_ok (SOk.cons l02Key_ok SOk.nil))))))))))))) mixed (fn := Try.f123) (code := body Try.f123) ⟨Try.func123, rfl, by kernel_rfl, by kernel_rfl, by kernel_rfl, by kernel_rfl⟩ (ev_l03Any x)
end Go.Vm
namespace Go.Vm
open Go.Proofs
set_option maxRecDepth 100000
set_option linter.unusedVariables false
set_option linter.unusedSimpArgs false

def hasB (r : RngX) (k : ByteArray) : Bool := !strLt k r.lo && (emp r.hi || strLt k r.hi)
def cHas (f : RngX → ByteArray → Bool) : Con := pureC (RngX × ByteArray) [(.rd, true), (.rd, false)] [false] (fun x => [x.1.ds, [.lf (.string x.2)]]) (fun x => [[.lf (.bool (f x.1 x.2))]])
theorem ev_iHas : ∀ x, evFnX tab [] (cHas hasB) Try.f128 (body Try.f128) x := by
  rintro ⟨⟨lo, hi⟩, k⟩
  have fin : ∀ b, b = hasB ⟨lo, hi⟩ k → [[D.lf (.bool b)]] = [[D.lf (.bool (hasB ⟨lo, hi⟩ k))]] := fun b h => by rw [h]
  have eh : hasB ⟨lo, hi⟩ k = (!strLt k lo && (emp hi || strLt k hi)) := rfl
  conv => whnf
  refine br2 (fun h1 => ?_) (fun h1 => ?_)
  · replace h1 : (!strLt k lo) = true := h1
    conv => whnf
    refine br2 (fun h2 => ?_) (fun h2 => ?_)
    · replace h2 : emp hi = true := h2
      conv => whnf
      exact ⟨⟨rfl, fin _ (by rw [eh, h1, h2]; rfl)⟩⟩
    · replace h2 : emp hi = false := h2
      conv => whnf
      exact ⟨⟨rfl, fin _ (by rw [eh, h1, h2]; rfl)⟩⟩
  · replace h1 : (!strLt k lo) = false := h1
    conv => whnf
    exact ⟨⟨rfl, fin _ (by rw [eh, h1]; rfl)⟩⟩
theorem iHas_ok : FnOk Try.prog 128 (cHas hasB) := fnOk_of fun x => fnX_at tab_ok (SOk.nil) mixed (fn := Try.f128) (code := body Try.f128) ⟨Try.func128, rfl, by kernel_rfl, by kernel_rfl, by kernel_rfl, by kernel_rfl⟩ (ev_iHas x)
def rangeHasB (r : RngX) (k : ByteArray) : Bool := rangeOkB r.lo r.hi && keyOkB k && hasB r k
theorem ev_sRangeHas : ∀ x, evFnX tab [(176, cRangeOk), (142, cKeyOk)] (cHas rangeHasB) Try.f116 (body Try.f116) x := by
  rintro ⟨⟨lo, hi⟩, k⟩
  have fin : ∀ b, b = rangeHasB ⟨lo, hi⟩ k → [[D.lf (.bool b)]] = [[D.lf (.bool (rangeHasB ⟨lo, hi⟩ k))]] := fun b h => by rw [h]
  have eh : rangeHasB ⟨lo, hi⟩ k = (rangeOkB lo hi && keyOkB k && (!strLt k lo && (emp hi || strLt k hi))) := rfl
  have el : (strLt lo k || strEq lo k) = !strLt k lo := by rw [strLt_flip lo k, Bool.not_not]
  conv => whnf
  refine ⟨(lo, hi), rfl, ?_⟩
  rintro _ _ ⟨rfl, rfl⟩
  conv => whnf
  refine br2 (fun h1 => ?_) (fun h1 => ?_)
  · replace h1 : rangeOkB lo hi = true := h1
    conv => whnf
    refine ⟨k, rfl, ?_⟩
    rintro _ _ ⟨rfl, rfl⟩
    conv => whnf
    refine br2 (fun h2 => ?_) (fun h2 => ?_)
    · replace h2 : keyOkB k = true := h2
      conv => whnf
      refine br2 (fun h3 => ?_) (fun h3 => ?_)
      · replace h3 : (strLt lo k || strEq lo k) = true := h3
        rw [el] at h3
        conv => whnf
        refine br2 (fun h4 => ?_) (fun h4 => ?_)
        · replace h4 : emp hi = true := h4
          conv => whnf
          exact ⟨⟨rfl, fin _ (by rw [eh, h1, h2, h3, h4]; rfl)⟩⟩
        · replace h4 : emp hi = false := h4
          conv => whnf
          exact ⟨⟨rfl, fin _ (by rw [eh, h1, h2, h3, h4]; rfl)⟩⟩
      · replace h3 : (strLt lo k || strEq lo k) = false := h3
        rw [el] at h3
        conv => whnf
        exact ⟨⟨rfl, fin _ (by rw [eh, h1, h2, h3]; rfl)⟩⟩
    · replace h2 : keyOkB k = false := h2
      conv => whnf
      exact ⟨⟨rfl, fin _ (by rw [eh, h1, h2]; rfl)⟩⟩
  · replace h1 : rangeOkB lo hi = false := h1
    conv => whnf
    exact ⟨⟨rfl, fin _ (by rw [eh, h1]; rfl)⟩⟩
theorem sRangeHas_ok : FnOk Try.prog 116 (cHas rangeHasB) := fnOk_of fun x => fnX_at tab_ok (SOk.cons sRangeOk_ok (SOk.cons sKeyOk_ok SOk.nil)) mixed (fn := Try.f116) (code := body Try.f116) ⟨Try.func116, rfl, by kernel_rfl, by kernel_rfl, by kernel_rfl, by kernel_rfl⟩ (ev_sRangeHas x)
/-- What a scan takes, pair by pair. -/
def scanS (f : ByteArray → Bool) (most : Int) (out : List RngX) (p : RngX) : List RngX := if f p.lo && decide ((out.length : Int) < most) then out ++ [p] else out
def scanL (f : ByteArray → Bool) (most : Int) (back : Bool) (l : List RngX) : List RngX := (if back then l.reverse else l).foldl (scanS f most) []
theorem scanS_len (f : ByteArray → Bool) (most : Int) (out : List RngX) (p : RngX) : (scanS f most out p).length ≤ out.length + 1 := by
  unfold scanS; split <;> simp
theorem scanF_len (f : ByteArray → Bool) (most : Int) : ∀ (l out : List RngX), (l.foldl (scanS f most) out).length ≤ out.length + l.length
  | [], out => by simp
  | p :: l, out => by
    have h1 := scanF_len f most l (scanS f most out p)
    have h2 := scanS_len f most out p
    simp only [List.foldl_cons, List.length_cons]; omega
theorem scanF_take {f : ByteArray → Bool} {most : Int} {l : List RngX} {i : Nat} {p : RngX} (h : l[i]? = some p) : (l.take (i + 1)).foldl (scanS f most) [] = scanS f most ((l.take i).foldl (scanS f most) []) p := by
  rw [List.take_add_one, h, List.foldl_append]; rfl
theorem scanF_le (f : ByteArray → Bool) (most : Int) (l : List RngX) (i : Nat) : ((l.take i).foldl (scanS f most) []).length ≤ l.length := by
  have := scanF_len f most (l.take i) []
  simp at this; omega
theorem scanL_le (f : ByteArray → Bool) (most : Int) (back : Bool) (l : List RngX) : (scanL f most back l).length ≤ l.length := by
  have := scanF_len f most (if back then l.reverse else l) []
  unfold scanL
  cases back <;> simp at this ⊢ <;> exact this
def ordL (back : Bool) (l : List RngX) : List RngX := if back then l.reverse else l
theorem ordL_len (back : Bool) (l : List RngX) : (ordL back l).length = l.length := by cases back <;> simp [ordL]
theorem rev_at {l : List RngX} {i : Nat} (h : i < l.length) : l.reverse[i]? = l[l.length - 1 - i]? := List.getElem?_reverse h
structure ScanX where
  l : List RngX
  r : RngX
  most : Int
  back : Bool
  hl : l.length ≤ 1048576
theorem ev_scanned : ∀ x, evFnX tab [(1000002, cGh), (128, (cHas hasB))] (pureC ScanX [(.rd, false), (.rd, true), (.rd, false), (.rd, false)] [false] (fun x => [[.row 2 RngX.ds x.l], x.r.ds, [.lf (.int .i64 x.most)], [.lf (.bool x.back)]]) (fun x => [[.row 2 RngX.ds (scanL (hasB x.r) x.most x.back x.l)]])) Try.f119 (body Try.f119) x := by
  rintro ⟨l, r, most, back, hl⟩
  replace hl : l.length ≤ 1048576 := hl
  conv => whnf
  refine ⟨[.row 192], ?_⟩
  conv => whnf
  refine ⟨RngX, RngX.ds, [], fun _ => rfl, rfl, ?_⟩
  conv => whnf
  intro _
  conv => whnf
  let O : Nat → List RngX := fun i => ((ordL back l).take i).foldl (scanS (hasB r) most) []
  have hO : ∀ i, (O i).length ≤ 1048576 := fun i => Nat.le_trans (scanF_le _ _ _ _) (by rw [ordL_len]; exact hl)
  let S0 : Nat → Sl := fun i => [(15, .lf (.int .i64 i)), (14, .lf (.int .i64 l.length)), (9, .sl 192 none), (5, .pt 80 0 0), (3, .lf (.bool back)), (2, .lf (.int .i64 most)), (0, .sl 0 none)]
  let H0 : Nat → Hp := fun i => [(192, some (.row .own 2 RngX.ds (O i))), (80, some (.arr true 2 [[.lf (.string r.lo), .lf (.string r.hi)]])), (0, some (.row .lent 2 RngX.ds l))]
  refine ⟨fun m s h => ∃ i : Nat, i ≤ l.length ∧ m = l.length - i ∧ s = S0 i ∧ h = H0 i, l.length, [(192, 192), (80, 80), (0, 0)], S0 0, H0 0, ⟨rfl, ⟨rfl, rfl, rfl, rfl, rfl, rfl, rfl, trivial⟩, rfl, rfl, rfl, trivial⟩, ⟨0, by omega, rfl, rfl, rfl⟩, ?_⟩
  rintro m _ _ ⟨i, g1, rfl, rfl, rfl⟩
  have hs : ∀ y, (ordL back l)[i]? = some y → O (i + 1) = scanS (hasB r) most (O i) y := fun y hy => scanF_take hy
  have yes : ∀ y, hasB r y.lo = true → decide (((O i).length : Int) < most) = true → scanS (hasB r) most (O i) y = O i ++ [y] := fun y h1 h2 => by unfold scanS; rw [h1, h2]; rfl
  have no1 : ∀ y, hasB r y.lo = false → scanS (hasB r) most (O i) y = O i := fun y h1 => by unfold scanS; rw [h1]; rfl
  have no2 : ∀ y, decide (((O i).length : Int) < most) = false → scanS (hasB r) most (O i) y = O i := fun y h1 => by unfold scanS; rw [h1, Bool.and_false]; rfl
  have hlen := hO i
  have step : ∀ {s' : Sl} {h' : Hp} (ρ : List (Nat × Nat)), i < l.length → Le ρ (S0 (i + 1)) (H0 (i + 1)) s' h' → ∃ m' ρ s'' h'', m' < l.length - i ∧ Le ρ s'' h'' s' h' ∧ ∃ i, i ≤ l.length ∧ m' = l.length - i ∧ s'' = S0 i ∧ h'' = H0 i := fun ρ hi hle =>
    ⟨l.length - (i + 1), ρ, _, _, by omega, hle, i + 1, by omega, rfl, rfl, rfl⟩
  conv => whnf
  refine br2 (fun h5 => ?_) (fun h5 => ?_)
  · have hi : i < l.length := by have := of_decide_eq_true h5; omega
    obtain ⟨z, hz⟩ := getL hi
    have hinc := incI hi (show l.length ≤ 9223372036854775807 by omega)
    cases back with
    | false =>
      have hs1 := hs z hz
      conv => whnf
      refine ⟨Int.natCast_nonneg _, ltI hz, ?_⟩
      conv => whnf
      refine ex2 _ (nthI hz) ?_
      conv => whnf
      refine ⟨(r, z.lo), rfl, ?_⟩
      rintro _ _ ⟨rfl, rfl⟩
      conv => whnf
      refine br2 (fun h6 => ?_) (fun h6 => ?_)
      · conv => whnf
        intro _
        conv => whnf
        refine br2 (fun h7 => ?_) (fun h7 => ?_)
        · conv => whnf
          refine ⟨[z], rfl, ?_, ?_⟩
          · show (O i).length + 1 ≤ 4294967296; omega
          conv => whnf
          refine step [(704, 192), (80, 80), (0, 0)] hi ⟨rfl, ⟨hinc, rfl, rfl, rfl, rfl, rfl, rfl, trivial⟩, ?_, rfl, rfl, trivial⟩
          show _ = some (Ob.row Kind.own 2 RngX.ds (O (i + 1)))
          rw [hs1, yes z h6 h7]; rfl
        · conv => whnf
          refine step [(192, 192), (80, 80), (0, 0)] hi ⟨rfl, ⟨hinc, rfl, rfl, rfl, rfl, rfl, rfl, trivial⟩, ?_, rfl, rfl, trivial⟩
          show _ = some (Ob.row Kind.own 2 RngX.ds (O (i + 1)))
          rw [hs1, no2 z h7]; rfl
      · conv => whnf
        refine step [(192, 192), (80, 80), (0, 0)] hi ⟨rfl, ⟨hinc, rfl, rfl, rfl, rfl, rfl, rfl, trivial⟩, ?_, rfl, rfl, trivial⟩
        show _ = some (Ob.row Kind.own 2 RngX.ds (O (i + 1)))
        rw [hs1, no1 z h6]; rfl
    | true =>
      obtain ⟨y, hy⟩ := getL (l := l) (j := l.length - 1 - i) (by omega)
      have hs1 := hs y (by show l.reverse[i]? = some y; rw [rev_at hi]; exact hy)
      have hw : IntKind.i64.wrap (IntKind.i64.wrap ((l.length : Int) - 1) - (i : Int)) = ((l.length - 1 - i : Nat) : Int) := by
        rw [w64 (n := (l.length : Int) - 1) (by omega) (by omega), w64 (by omega) (by omega)]; omega
      conv => whnf
      refine ⟨Int.natCast_nonneg _, ltI hz, ?_⟩
      conv => whnf
      refine ex2 _ (nthI hz) ?_
      conv => whnf
      intro _
      conv => whnf
      refine ⟨(ixE hw hy).1, (ixE hw hy).2, ?_⟩
      conv => whnf
      refine ex2 _ (nthE hw hy) ?_
      conv => whnf
      refine ⟨(r, y.lo), rfl, ?_⟩
      rintro _ _ ⟨rfl, rfl⟩
      conv => whnf
      refine br2 (fun h6 => ?_) (fun h6 => ?_)
      · conv => whnf
        intro _
        conv => whnf
        refine br2 (fun h7 => ?_) (fun h7 => ?_)
        · conv => whnf
          refine ⟨[y], rfl, ?_, ?_⟩
          · show (O i).length + 1 ≤ 4294967296; omega
          conv => whnf
          refine step [(704, 192), (80, 80), (0, 0)] hi ⟨rfl, ⟨hinc, rfl, rfl, rfl, rfl, rfl, rfl, trivial⟩, ?_, rfl, rfl, trivial⟩
          show _ = some (Ob.row Kind.own 2 RngX.ds (O (i + 1)))
          rw [hs1, yes y h6 h7]; rfl
        · conv => whnf
          refine step [(192, 192), (80, 80), (0, 0)] hi ⟨rfl, ⟨hinc, rfl, rfl, rfl, rfl, rfl, rfl, trivial⟩, ?_, rfl, rfl, trivial⟩
          show _ = some (Ob.row Kind.own 2 RngX.ds (O (i + 1)))
          rw [hs1, no2 y h7]; rfl
      · conv => whnf
        refine step [(192, 192), (80, 80), (0, 0)] hi ⟨rfl, ⟨hinc, rfl, rfl, rfl, rfl, rfl, rfl, trivial⟩, ?_, rfl, rfl, trivial⟩
        show _ = some (Ob.row Kind.own 2 RngX.ds (O (i + 1)))
        rw [hs1, no1 y h6]; rfl
  · have hi : i = l.length := by have := of_decide_eq_false h5; omega
    subst hi
    conv => whnf
    refine ⟨⟨rfl, ?_⟩⟩
    show [[D.row 2 RngX.ds (O l.length)]] = [[D.row 2 RngX.ds (scanL (hasB r) most back l)]]
    simp only [O]
    rw [List.take_of_length_le (by rw [ordL_len]; omega)]
    rfl
theorem scanned_ok : FnOk Try.prog 119 (pureC ScanX [(.rd, false), (.rd, true), (.rd, false), (.rd, false)] [false] (fun x => [[.row 2 RngX.ds x.l], x.r.ds, [.lf (.int .i64 x.most)], [.lf (.bool x.back)]]) (fun x => [[.row 2 RngX.ds (scanL (hasB x.r) x.most x.back x.l)]])) := fnOk_of fun x => fnX_at tab_ok (SOk.cons gh_ok (SOk.cons iHas_ok SOk.nil)) mixed (fn := Try.f119) (code := body Try.f119) ⟨Try.func119, rfl, by kernel_rfl, by kernel_rfl, by kernel_rfl, by kernel_rfl⟩ (ev_scanned x)
/-- A scan of a tree. -/
structure TScanX where
  t : TreeX
  r : RngX
  most : Int
  back : Bool
structure ScanR (N : List NodeX) (r : RngX) (most : Int) (back : Bool) (l : List RngX) : Prop where
  yes : ∀ o, Vo o → N = layO o → l = scanL (rangeHasB r) most back (allO o)
  no : ¬ TreeP N → l = []
def cTreeScan : Con := relC TScanX [(.rd, true), (.rd, true), (.rd, false), (.rd, false)] [false] (fun x => [[.row 3 NodeX.ds x.t.N], x.r.ds, [.lf (.int .i64 x.most)], [.lf (.bool x.back)]]) (fun x r => ∃ l, r = [[.row 2 RngX.ds l]] ∧ ScanR x.t.N x.r x.most x.back l)
theorem scanF_congr {f g : ByteArray → Bool} {most : Int} : ∀ {l : List RngX} {out : List RngX}, (∀ p ∈ l, f p.lo = g p.lo) → l.foldl (scanS f most) out = l.foldl (scanS g most) out
  | [], out, _ => rfl
  | p :: l, out, h => by
    simp only [List.foldl_cons]
    rw [show scanS f most out p = scanS g most out p by unfold scanS; rw [h p (by simp)]]
    exact scanF_congr fun q hq => h q (by simp [hq])
theorem scanL_congr {f g : ByteArray → Bool} {most : Int} {back : Bool} {l : List RngX} (h : ∀ p ∈ l, f p.lo = g p.lo) : scanL f most back l = scanL g most back l := by
  unfold scanL
  refine scanF_congr fun p hp => h p ?_
  cases back <;> simpa using hp
theorem scanL_none {most : Int} {back : Bool} {l : List RngX} {f : ByteArray → Bool} (h : ∀ p ∈ l, f p.lo = false) : scanL f most back l = [] := by
  have key : ∀ (m : List RngX), (∀ p ∈ m, f p.lo = false) → m.foldl (scanS f most) [] = [] := by
    intro m
    induction m with
    | nil => intro _; rfl
    | cons p m ih =>
      intro h
      simp only [List.foldl_cons]
      rw [show scanS f most [] p = [] by unfold scanS; rw [h p (by simp)]; rfl]
      exact ih fun q hq => h q (by simp [hq])
  unfold scanL
  refine key _ fun p hp => h p ?_
  cases back <;> simpa using hp
theorem Vo.key {o : Option Tw} (h : Vo o) {p : RngX} (hp : p ∈ allO o) : keyOkB p.lo = true := by
  have := h.ok.ok p hp
  simp only [kvOkB, Bool.and_eq_true] at this
  exact this.1
theorem ev_iTreeScan : ∀ x, evFnX tab [(118, cRangeOk), (53, cTreeAll), (119, (pureC ScanX [(.rd, false), (.rd, true), (.rd, false), (.rd, false)] [false] (fun x => [[.row 2 RngX.ds x.l], x.r.ds, [.lf (.int .i64 x.most)], [.lf (.bool x.back)]]) (fun x => [[.row 2 RngX.ds (scanL (hasB x.r) x.most x.back x.l)]])))] cTreeScan Try.f44 (body Try.f44) x := by
  rintro ⟨⟨N, f, hf, hN, hp⟩, r, most, back⟩
  conv => whnf
  refine ⟨(r.lo, r.hi), rfl, ?_⟩
  rintro _ _ ⟨rfl, rfl⟩
  conv => whnf
  refine br2 (fun h1 => ?_) (fun h1 => ?_)
  · replace h1 : (!rangeOkB r.lo r.hi) = true := h1
    rw [Bool.not_eq_true'] at h1
    conv => whnf
    refine ⟨RngX, RngX.ds, [], fun _ => rfl, rfl, ?_⟩
    conv => whnf
    refine ⟨⟨rfl, [], rfl, fun o ho e => ?_, fun _ => rfl⟩⟩
    exact (scanL_none fun p _ => by show rangeHasB r p.lo = false; unfold rangeHasB; rw [h1]; rfl).symm
  · replace h1 : (!rangeOkB r.lo r.hi) = false := h1
    rw [Bool.not_eq_false'] at h1
    conv => whnf
    refine ⟨⟨N, f, hf, hN, hp⟩, rfl, ?_⟩
    rintro _ _ ⟨rfl, l, rfl, al⟩
    replace al : AllR N l := al
    have hl : l.length ≤ 1048576 := by
      by_cases hT : TreeP N
      · obtain ⟨o, ho, e⟩ := hT
        rw [al.yes o ho e]
        have := ho.ok.len
        omega
      · rw [al.no hT]; simp
    conv => whnf
    repeat ((first | refine rc_i rfl ?_ | refine rc_i (fun _ => rfl) ?_); conv => whnf)
    refine ⟨⟨l, r, most, back, hl⟩, rfl, ?_⟩
    rintro _ _ ⟨rfl, rfl⟩
    conv => whnf
    repeat ((first | refine rc_i rfl ?_ | refine rc_i (fun _ => rfl) ?_); conv => whnf)
    refine ⟨⟨rfl, _, rfl, fun o ho e => ?_, fun h => ?_⟩⟩
    · show scanL (hasB r) most back l = scanL (rangeHasB r) most back (allO o)
      rw [al.yes o ho e]
      refine scanL_congr fun p hp => ?_
      unfold rangeHasB
      rw [h1, ho.key hp]; rfl
    · show scanL (hasB r) most back l = []
      rw [al.no h]
      cases back <;> rfl
theorem iTreeScan_ok : FnOk Try.prog 44 cTreeScan := fnOk_of fun x => fnX_at tab_ok (SOk.cons iRangeOk_ok (SOk.cons iTreeAll_ok (SOk.cons scanned_ok SOk.nil))) mixed (fn := Try.f44) (code := body Try.f44) ⟨Try.func44, rfl, by kernel_rfl, by kernel_rfl, by kernel_rfl, by kernel_rfl⟩ (ev_iTreeScan x)
theorem ev_sTreeScan : ∀ x, evFnX tab [(1000002, cGh), (54, cTreeAll), (116, (cHas rangeHasB))] cTreeScan Try.f41 (body Try.f41) x := by
  rintro ⟨⟨N, f, hf, hN, hp⟩, r, most, back⟩
  conv => whnf
  refine ⟨[.row 208], ?_⟩
  conv => whnf
  refine ⟨RngX, RngX.ds, [], fun _ => rfl, rfl, ?_⟩
  conv => whnf
  refine ⟨⟨N, f, hf, hN, hp⟩, rfl, ?_⟩
  rintro _ _ ⟨rfl, l, rfl, al⟩
  replace al : AllR N l := al
  have hl : l.length ≤ 1048576 := by
    by_cases hT : TreeP N
    · obtain ⟨o, ho, e⟩ := hT
      rw [al.yes o ho e]
      have := ho.ok.len
      omega
    · rw [al.no hT]; simp
  conv => whnf
  intro _
  conv => whnf
  let O : Nat → List RngX := fun i => ((ordL back l).take i).foldl (scanS (rangeHasB r) most) []
  have hO : ∀ i, (O i).length ≤ 1048576 := fun i => Nat.le_trans (scanF_le _ _ _ _) (by rw [ordL_len]; exact hl)
  let S0 : Nat → Sl := fun i => [(18, .lf (.int .i64 i)), (17, .lf (.int .i64 l.length)), (9, .sl 208 none), (5, .pt 80 0 0), (3, .lf (.bool back)), (2, .lf (.int .i64 most)), (10, .sl 240 none)]
  let H0 : Nat → Hp := fun i => [(208, some (.row .own 2 RngX.ds (O i))), (80, some (.arr true 2 [[.lf (.string r.lo), .lf (.string r.hi)]])), (240, some (.row .own 2 RngX.ds l))]
  refine ⟨fun m s h => ∃ i : Nat, i ≤ l.length ∧ m = l.length - i ∧ s = S0 i ∧ h = H0 i, l.length, [(208, 208), (80, 80), (240, 240)], S0 0, H0 0, ⟨rfl, ⟨rfl, rfl, rfl, rfl, rfl, rfl, rfl, trivial⟩, rfl, rfl, rfl, trivial⟩, ⟨0, by omega, rfl, rfl, rfl⟩, ?_⟩
  rintro m _ _ ⟨i, g1, rfl, rfl, rfl⟩
  have hs : ∀ y, (ordL back l)[i]? = some y → O (i + 1) = scanS (rangeHasB r) most (O i) y := fun y hy => scanF_take hy
  have yes : ∀ y, rangeHasB r y.lo = true → decide (((O i).length : Int) < most) = true → scanS (rangeHasB r) most (O i) y = O i ++ [y] := fun y h1 h2 => by unfold scanS; rw [h1, h2]; rfl
  have no1 : ∀ y, rangeHasB r y.lo = false → scanS (rangeHasB r) most (O i) y = O i := fun y h1 => by unfold scanS; rw [h1]; rfl
  have no2 : ∀ y, decide (((O i).length : Int) < most) = false → scanS (rangeHasB r) most (O i) y = O i := fun y h1 => by unfold scanS; rw [h1, Bool.and_false]; rfl
  have hlen := hO i
  have step : ∀ {s' : Sl} {h' : Hp} (ρ : List (Nat × Nat)), i < l.length → Le ρ (S0 (i + 1)) (H0 (i + 1)) s' h' → ∃ m' ρ s'' h'', m' < l.length - i ∧ Le ρ s'' h'' s' h' ∧ ∃ i, i ≤ l.length ∧ m' = l.length - i ∧ s'' = S0 i ∧ h'' = H0 i := fun ρ hi hle =>
    ⟨l.length - (i + 1), ρ, _, _, by omega, hle, i + 1, by omega, rfl, rfl, rfl⟩
  conv => whnf
  refine br2 (fun h5 => ?_) (fun h5 => ?_)
  · have hi : i < l.length := by have := of_decide_eq_true h5; omega
    obtain ⟨z, hz⟩ := getL hi
    have hinc := incI hi (show l.length ≤ 9223372036854775807 by omega)
    cases back with
    | false =>
      have hs1 := hs z hz
      conv => whnf
      refine ⟨Int.natCast_nonneg _, ltI hz, ?_⟩
      conv => whnf
      refine ex2 _ (nthI hz) ?_
      conv => whnf
      intro _
      conv => whnf
      refine br2 (fun h7 => ?_) (fun h7 => ?_)
      · conv => whnf
        refine ⟨(r, z.lo), rfl, ?_⟩
        rintro _ _ ⟨rfl, rfl⟩
        conv => whnf
        refine br2 (fun h6 => ?_) (fun h6 => ?_)
        · conv => whnf
          refine ⟨[z], rfl, ?_, ?_⟩
          · show (O i).length + 1 ≤ 4294967296; omega
          conv => whnf
          refine step [(752, 208), (80, 80), (240, 240)] hi ⟨rfl, ⟨hinc, rfl, rfl, rfl, rfl, rfl, rfl, trivial⟩, ?_, rfl, rfl, trivial⟩
          show _ = some (Ob.row Kind.own 2 RngX.ds (O (i + 1)))
          rw [hs1, yes z h6 h7]; rfl
        · conv => whnf
          refine step [(208, 208), (80, 80), (240, 240)] hi ⟨rfl, ⟨hinc, rfl, rfl, rfl, rfl, rfl, rfl, trivial⟩, ?_, rfl, rfl, trivial⟩
          show _ = some (Ob.row Kind.own 2 RngX.ds (O (i + 1)))
          rw [hs1, no1 z h6]; rfl
      · conv => whnf
        refine step [(208, 208), (80, 80), (240, 240)] hi ⟨rfl, ⟨hinc, rfl, rfl, rfl, rfl, rfl, rfl, trivial⟩, ?_, rfl, rfl, trivial⟩
        show _ = some (Ob.row Kind.own 2 RngX.ds (O (i + 1)))
        rw [hs1, no2 z h7]; rfl
    | true =>
      obtain ⟨y, hy⟩ := getL (l := l) (j := l.length - 1 - i) (by omega)
      have hs1 := hs y (by show l.reverse[i]? = some y; rw [rev_at hi]; exact hy)
      have hw : IntKind.i64.wrap (IntKind.i64.wrap ((l.length : Int) - 1) - (i : Int)) = ((l.length - 1 - i : Nat) : Int) := by
        rw [w64 (n := (l.length : Int) - 1) (by omega) (by omega), w64 (by omega) (by omega)]; omega
      conv => whnf
      refine ⟨Int.natCast_nonneg _, ltI hz, ?_⟩
      conv => whnf
      refine ex2 _ (nthI hz) ?_
      conv => whnf
      intro _
      conv => whnf
      refine ⟨(ixE hw hy).1, (ixE hw hy).2, ?_⟩
      conv => whnf
      refine ex2 _ (nthE hw hy) ?_
      conv => whnf
      intro _
      conv => whnf
      refine br2 (fun h7 => ?_) (fun h7 => ?_)
      · conv => whnf
        refine ⟨(r, y.lo), rfl, ?_⟩
        rintro _ _ ⟨rfl, rfl⟩
        conv => whnf
        refine br2 (fun h6 => ?_) (fun h6 => ?_)
        · conv => whnf
          refine ⟨[y], rfl, ?_, ?_⟩
          · show (O i).length + 1 ≤ 4294967296; omega
          conv => whnf
          refine step [(752, 208), (80, 80), (240, 240)] hi ⟨rfl, ⟨hinc, rfl, rfl, rfl, rfl, rfl, rfl, trivial⟩, ?_, rfl, rfl, trivial⟩
          show _ = some (Ob.row Kind.own 2 RngX.ds (O (i + 1)))
          rw [hs1, yes y h6 h7]; rfl
        · conv => whnf
          refine step [(208, 208), (80, 80), (240, 240)] hi ⟨rfl, ⟨hinc, rfl, rfl, rfl, rfl, rfl, rfl, trivial⟩, ?_, rfl, rfl, trivial⟩
          show _ = some (Ob.row Kind.own 2 RngX.ds (O (i + 1)))
          rw [hs1, no1 y h6]; rfl
      · conv => whnf
        refine step [(208, 208), (80, 80), (240, 240)] hi ⟨rfl, ⟨hinc, rfl, rfl, rfl, rfl, rfl, rfl, trivial⟩, ?_, rfl, rfl, trivial⟩
        show _ = some (Ob.row Kind.own 2 RngX.ds (O (i + 1)))
        rw [hs1, no2 y h7]; rfl
  · have hi : i = l.length := by have := of_decide_eq_false h5; omega
    subst hi
    have hOl : O l.length = scanL (rangeHasB r) most back l := by
      simp only [O]
      rw [List.take_of_length_le (by rw [ordL_len]; omega)]
      rfl
    conv => whnf
    refine ⟨⟨rfl, O l.length, rfl, fun o ho e => ?_, fun h => ?_⟩⟩
    · show O l.length = scanL (rangeHasB r) most back (allO o)
      rw [hOl, al.yes o ho e]
    · rw [hOl, al.no h]
      cases back <;> rfl
theorem sTreeScan_ok : FnOk Try.prog 41 cTreeScan := fnOk_of fun x => fnX_at tab_ok (SOk.cons gh_ok (SOk.cons sTreeAll_ok (SOk.cons sRangeHas_ok SOk.nil))) mixed (fn := Try.f41) (code := body Try.f41) ⟨Try.func41, rfl, by kernel_rfl, by kernel_rfl, by kernel_rfl, by kernel_rfl⟩ (ev_sTreeScan x)
end Go.Vm
namespace Go.Vm
open Go.Proofs
set_option maxRecDepth 100000
set_option linter.unusedVariables false
set_option linter.unusedSimpArgs false

theorem scan_take {f : ByteArray → Bool} {most : Int} : ∀ (l out : List RngX), l.foldl (scanS f most) out = out ++ (l.filter fun p => f p.lo).take (most.toNat - out.length)
  | [], out => by simp
  | p :: l, out => by
    rw [List.foldl_cons, scan_take l]
    cases hf : f p.lo with
    | false =>
      have : scanS f most out p = out := by unfold scanS; rw [hf]; rfl
      rw [this, List.filter_cons_of_neg (by simp [hf])]
    | true =>
      rw [List.filter_cons_of_pos (by simp [hf])]
      by_cases hl : (out.length : Int) < most
      · have : scanS f most out p = out ++ [p] := by unfold scanS; rw [hf, decide_eq_true hl]; rfl
        rw [this, List.length_append, show most.toNat - out.length = (most.toNat - (out.length + 1)) + 1 by omega, List.take_succ_cons]
        simp
      · have : scanS f most out p = out := by unfold scanS; rw [hf, decide_eq_false hl]; rfl
        rw [this, show most.toNat - out.length = 0 by omega]
        simp
theorem scan_law {N : List NodeX} {r : RngX} {a b o : List RngX} (h1 : ScanR N r 200 false a) (h2 : ScanR N r 200 true b) (h3 : ScanR N r 1 true o) :
    b = a.reverse ∧ (∀ p ∈ a, rangeHasB r p.lo = true) ∧ o = b.take 1 ∧ a.length ≤ 200 := by
  by_cases hT : TreeP N
  · obtain ⟨t, ht, e⟩ := hT
    have hl := ht.ok.len
    rw [h1.yes t ht e, h2.yes t ht e, h3.yes t ht e]
    unfold scanL
    simp only [scan_take, if_true, List.nil_append, List.length_nil, Nat.sub_zero]
    have hk : ((allO t).filter fun p => rangeHasB r p.lo).length ≤ 200 := Nat.le_trans (List.length_filter_le _ _) hl
    have e1 : (200 : Int).toNat = 200 := rfl
    have e2 : (1 : Int).toNat = 1 := rfl
    have e3 : (if false = true then (allO t).reverse else allO t) = allO t := rfl
    rw [e1, e2, e3, List.take_of_length_le hk, List.filter_reverse, List.take_of_length_le (by rw [List.length_reverse]; exact hk)]
    exact ⟨rfl, fun p hp => (List.mem_filter.1 hp).2, rfl, hk⟩
  · rw [h1.no hT, h2.no hT, h3.no hT]; simp
theorem scan_ex (N : List NodeX) (r : RngX) (m : Int) (b : Bool) : ∃ l, ScanR N r m b l := by
  by_cases hT : TreeP N
  · obtain ⟨t, ht, e⟩ := hT
    exact ⟨_, fun o ho e' => by rw [layO_inj (o := o) (o' := t) (by rw [← e', ← e])], fun h => absurd ⟨t, ht, e⟩ h⟩
  · exact ⟨[], fun o ho e => absurd ⟨o, ho, e⟩ hT, fun _ => rfl⟩
theorem scan_eq {N : List NodeX} {r : RngX} {m : Int} {b : Bool} {l l' : List RngX} (h : ScanR N r m b l) (h' : ScanR N r m b l') : l = l' := by
  by_cases hT : TreeP N
  · obtain ⟨o, ho, e⟩ := hT
    exact (h.yes o ho e).trans (h'.yes o ho e).symm
  · exact (h.no hT).trans (h'.no hT).symm
theorem eqCells_rng {x y : RngX} {K : Bool → Prop} (e : x = y) (h : K true) : K (strEq x.lo y.lo && (strEq x.hi y.hi && true)) := by
  subst e; rw [strEq_refl, strEq_refl]; exact h
theorem ev_iRangeHas : ∀ x, evFnX tab [(118, cRangeOk), (127, cKeyOk), (128, (cHas hasB))] (cHas rangeHasB) Try.f51 (body Try.f51) x := by
  rintro ⟨⟨lo, hi⟩, k⟩
  have fin : ∀ b, b = rangeHasB ⟨lo, hi⟩ k → [[D.lf (.bool b)]] = [[D.lf (.bool (rangeHasB ⟨lo, hi⟩ k))]] := fun b h => by rw [h]
  have eh : rangeHasB ⟨lo, hi⟩ k = (rangeOkB lo hi && keyOkB k && hasB ⟨lo, hi⟩ k) := rfl
  conv => whnf
  refine ⟨(lo, hi), rfl, ?_⟩
  rintro _ _ ⟨rfl, rfl⟩
  conv => whnf
  cases h1 : rangeOkB lo hi with
  | false =>
    conv => whnf
    exact ⟨⟨rfl, fin _ (by rw [eh, h1]; rfl)⟩⟩
  | true =>
  conv => whnf
  refine ⟨k, rfl, ?_⟩
  rintro _ _ ⟨rfl, rfl⟩
  conv => whnf
  cases h2 : keyOkB k with
  | false =>
    conv => whnf
    exact ⟨⟨rfl, fin _ (by rw [eh, h1, h2]; rfl)⟩⟩
  | true =>
  conv => whnf
  refine ⟨(⟨lo, hi⟩, k), rfl, ?_⟩
  rintro _ _ ⟨rfl, rfl⟩
  conv => whnf
  exact ⟨⟨rfl, fin _ (by rw [eh, h1, h2]; rfl)⟩⟩
theorem iRangeHas_ok : FnOk Try.prog 51 (cHas rangeHasB) := fnOk_of fun x => fnX_at tab_ok (SOk.cons iRangeOk_ok (SOk.cons iKeyOk_ok (SOk.cons iHas_ok SOk.nil))) mixed (fn := Try.f51) (code := body Try.f51) ⟨Try.func51, rfl, by kernel_rfl, by kernel_rfl, by kernel_rfl, by kernel_rfl⟩ (ev_iRangeHas x)
def cDTScan : Con := { X := CodeX, params := [(.keep, false)], res := [true, true, false, false], resOwn := false, ins := fun c => [[.row 1 encB c.b]], post := fun _ outs r => outs = [] ∧ ∃ N lo hi m b, r = [[.row 3 NodeX.ds N], [.lf (.string lo), .lf (.string hi)], [.lf (.int .i64 m)], [.lf (.bool b)]] ∧ SmallT N }
theorem ev_drawTreeScan : ∀ x, evFnX tab [(107, cNew), (123, cTAny), (124, (cDraw true rngE (rngP 20))), (125, cBelow), (126, (cDraw false intE intP))] cDTScan Try.f50 (body Try.f50) x := by
  rintro ⟨l, hb⟩
  conv => whnf
  refine ⟨⟨l, hb⟩, rfl, ?_⟩
  rintro _ _ ⟨rfl, c, rfl⟩
  conv => whnf
  refine ⟨c, rfl, ?_⟩
  rintro _ _ ⟨c, N, rfl, rfl, hS⟩
  conv => whnf
  refine useDraw (c := c) rfl fun c r _ => ?_
  obtain ⟨lo, hi⟩ := r
  conv => whnf
  refine useBelow (c := c) (n := 9) rfl (by decide) fun c v v1 v2 _ => ?_
  conv => whnf
  refine useBelow (c := c) (n := 6) rfl (by decide) fun c v' v1' v2' _ => ?_
  conv => whnf
  refine br2 (fun h1 => ?_) (fun h1 => ?_)
  · conv => whnf
    refine useDraw (c := c) rfl fun c m _ => ?_
    conv => whnf
    refine useBelow (c := c) (n := 2) rfl (by decide) fun c q _ _ _ => ?_
    conv => whnf
    repeat ((first | refine rc_i rfl ?_ | refine rc_i (fun _ => rfl) ?_); conv => whnf)
    exact ⟨⟨rfl, N, lo, hi, _, _, rfl, hS⟩⟩
  · conv => whnf
    refine useBelow (c := c) (n := 2) rfl (by decide) fun c q _ _ _ => ?_
    conv => whnf
    repeat ((first | refine rc_i rfl ?_ | refine rc_i (fun _ => rfl) ?_); conv => whnf)
    exact ⟨⟨rfl, N, lo, hi, _, _, rfl, hS⟩⟩
theorem drawTreeScan_ok : FnOk Try.prog 50 cDTScan := fnOk_of fun x => fnX_at tab_ok (SOk.cons l01New_ok (SOk.cons l03Any_ok (SOk.cons l02AnyRange_ok (SOk.cons l01Below_ok (SOk.cons l01Raw_ok SOk.nil))))) mixed (fn := Try.f50) (code := body Try.f50) ⟨Try.func50, rfl, by kernel_rfl, by kernel_rfl, by kernel_rfl, by kernel_rfl⟩ (ev_drawTreeScan x)
structure LawX where
  b : List UInt8
def cLawB : Con := { X := LawX, params := [(.keep, false)], res := [false], resOwn := true, ins := fun c => [[.row 1 encB c.b]], post := fun _ outs r => outs = [] ∧ r = [[.lf (.bool true)]] }
theorem SmallT.x {N : List NodeX} (h : SmallT N) : N.length ≤ 1048576 ∧ ∀ n ∈ N, n.ps.length ≤ 1048576 := ⟨by have := h.len; omega, fun n hn => by have := (h.nodes n hn).1; omega⟩
theorem ev_lawScan : ∀ x, evFnX tab [(50, cDTScan), (44, cTreeScan), (41, cTreeScan), (51, (cHas rangeHasB))] cLawB Try.f8 (body Try.f8) x := by
  rintro ⟨c⟩
  conv => whnf
  intro _
  conv => whnf
  refine br2 (fun h0 => ?_) (fun h0 => ?_)
  · conv => whnf
    exact ⟨⟨rfl, rfl⟩⟩
  have hb : c.length ≤ 1048576 := by have h1 : ¬ (c.length : Int) > 1048576 := of_decide_eq_false h0; omega
  clear h0
  conv => whnf
  refine ⟨⟨c, hb⟩, rfl, ?_⟩
  rintro _ _ ⟨rfl, N, lo, hi, m, x, rfl, hS⟩
  obtain ⟨hN, hp⟩ := hS.x
  conv => whnf
  refine ⟨⟨⟨N, N.length, Nat.le_refl _, hN, hp⟩, ⟨lo, hi⟩, 200, false⟩, rfl, ?_⟩
  rintro _ _ ⟨rfl, a, rfl, s1⟩
  conv => whnf
  refine ⟨⟨⟨N, N.length, Nat.le_refl _, hN, hp⟩, ⟨lo, hi⟩, 200, true⟩, rfl, ?_⟩
  rintro _ _ ⟨rfl, b, rfl, s2⟩
  conv => whnf
  intro _
  conv => whnf
  refine ⟨⟨⟨N, N.length, Nat.le_refl _, hN, hp⟩, ⟨lo, hi⟩, 200, false⟩, rfl, ?_⟩
  rintro _ _ ⟨rfl, a', rfl, s3⟩
  conv => whnf
  intro _
  conv => whnf
  obtain rfl := scan_eq s1 s3
  clear s3
  obtain ⟨o0, ho0⟩ := scan_ex N ⟨lo, hi⟩ 1 true
  obtain ⟨rfl, hf, -, hla⟩ := scan_law s1 s2 ho0
  refine br2 (fun h1 => ?_) (fun h1 => ?_)
  · exfalso
    replace h1 : ((a.length : Int) != (a.length : Int)) = true := h1
    simp at h1
  conv => whnf
  intro _
  conv => whnf
  intro _
  conv => whnf
  refine br2 (fun h2 => ?_) (fun h2 => ?_)
  · exfalso
    replace h2 : ((a.length : Int) != (a.reverse.length : Int)) = true := h2
    simp at h2
  clear h1 h2
  conv => whnf
  intro _
  conv => whnf
  let S0 : Nat → Sl := fun i => [(43, .lf (.int .i64 i)), (42, .lf (.int .i64 a.length)), (7, .sl 368 none), (8, .sl 416 none), (3, .pt 48 0 0), (4, .pt 64 0 0)]
  let H0 : Hp := [(368, some (.row .own 2 RngX.ds a)), (416, some (.row .own 2 RngX.ds a.reverse)), (48, some (.arr true 1 [[.sl 256 none]])), (64, some (.arr true 2 [[.lf (.string lo), .lf (.string hi)]])), (256, some (.row .ro 3 NodeX.ds N))]
  refine ⟨fun m s h => ∃ i : Nat, i ≤ a.length ∧ m = a.length - i ∧ s = S0 i ∧ h = H0, a.length, [(368, 368), (416, 416), (48, 48), (64, 64), (256, 256)], S0 0, H0, ⟨rfl, ⟨rfl, rfl, rfl, rfl, rfl, rfl, trivial⟩, rfl, rfl, rfl, rfl, rfl, trivial⟩, ⟨0, by omega, by omega, rfl, rfl⟩, ?_⟩
  rintro m _ _ ⟨i, g1, rfl, rfl, rfl⟩
  conv => whnf
  refine br2 (fun h5 => ?_) (fun h5 => ?_)
  · have hia : i < a.length := by have := of_decide_eq_true h5; omega
    obtain ⟨y, hy⟩ := getL hia
    have hy2 : a.reverse[a.length - 1 - i]? = some y := by
      rw [rev_at (by omega), show a.length - 1 - (a.length - 1 - i) = i by omega]; exact hy
    have hw : IntKind.i64.wrap (IntKind.i64.wrap ((a.reverse.length : Int) - 1) - (i : Int)) = ((a.length - 1 - i : Nat) : Int) := by
      rw [List.length_reverse, w64 (n := (a.length : Int) - 1) (by omega) (by omega), w64 (by omega) (by omega)]; omega
    have hfy : rangeHasB ⟨lo, hi⟩ y.lo = true := hf y (List.mem_of_getElem? hy)
    conv => whnf
    refine ⟨Int.natCast_nonneg _, ltI hy, ?_⟩
    conv => whnf
    refine ex2 _ (nthI hy) ?_
    conv => whnf
    intro _
    conv => whnf
    refine ⟨(ixE hw hy2).1, (ixE hw hy2).2, ?_⟩
    conv => whnf
    refine ex2 _ (nthE hw hy2) ?_
    conv => whnf
    have hr : ∀ x : ByteArray, (strEq x x) = true := strEq_refl
    have hne : (!(strEq y.lo y.lo && (strEq y.hi y.hi && true))) = false := by rw [hr, hr]; rfl
    refine br2 (fun h6 => ?_) (fun h6 => ?_)
    · exact absurd (hne.symm.trans h6) (by simp)
    conv => whnf
    refine ⟨Int.natCast_nonneg _, ltI hy, ?_⟩
    conv => whnf
    refine ex2 _ (nthI hy) ?_
    conv => whnf
    refine ⟨(⟨lo, hi⟩, y.lo), rfl, ?_⟩
    rintro _ _ ⟨rfl, rfl⟩
    conv => whnf
    repeat ((first | refine rc_i rfl ?_ | refine rc_i (fun _ => rfl) ?_); conv => whnf)
    refine br2 (fun h7 => ?_) (fun h7 => ?_)
    · replace h7 : (!rangeHasB ⟨lo, hi⟩ y.lo) = true := h7
      rw [hfy] at h7; cases h7
    conv => whnf
    exact ⟨a.length - (i + 1), [(368, 368), (416, 416), (48, 48), (64, 64), (256, 256)], S0 (i + 1), H0, by omega, ⟨rfl, ⟨incI hia (by omega), rfl, rfl, rfl, rfl, rfl, trivial⟩, rfl, rfl, rfl, rfl, rfl, trivial⟩, i + 1, by omega, rfl, rfl, rfl⟩
  · have hia : i = a.length := by have := of_decide_eq_false h5; omega
    subst hia
    conv => whnf
    refine ⟨⟨⟨N, N.length, Nat.le_refl _, hN, hp⟩, ⟨lo, hi⟩, 1, true⟩, rfl, ?_⟩
    rintro _ _ ⟨rfl, o, rfl, s3⟩
    conv => whnf
    obtain ⟨_, _, ho, _⟩ := scan_law s1 s2 s3
    cases ha : a.reverse with
    | nil =>
      have ha0 : a = [] := by simpa using ha
      rw [ha] at ho
      subst ha0
      obtain rfl : o = [] := ho
      intro _
      conv => whnf
      intro _
      conv => whnf
      repeat ((first | refine rc_i rfl ?_ | refine rc_i (fun _ => rfl) ?_); conv => whnf)
      exact ⟨⟨rfl, rfl⟩⟩
    | cons z zs =>
      rw [ha] at ho
      obtain rfl : o = [z] := ho
      obtain ⟨u, us, rfl⟩ : ∃ u us, a = u :: us := by cases a with | nil => simp at ha | cons u us => exact ⟨u, us, rfl⟩
      have hz : (u :: us).reverse[0]? = some z := by rw [ha]; rfl
      have hzl : 0 < (u :: us).reverse.length := by rw [ha]; simp
      intro _
      conv => whnf
      intro _
      conv => whnf
      refine ⟨Int.le_refl _, (show (0 : Int) < 1 by decide), ?_⟩
      conv => whnf
      refine ⟨Int.le_refl _, (show (0 : Int) < ((u :: us).reverse.length : Int) by omega), ?_⟩
      conv => whnf
      refine ex2 z (by rw [nth_eq]; exact hz) ?_
      conv => whnf
      have e1 : strEq z.lo z.lo = true := strEq_refl _
      have e2 : strEq z.hi z.hi = true := strEq_refl _
      repeat (refine rc_i (by (conv => whnf); first | rfl | exact fun _ => rfl | exact ⟨Int.le_refl _, (show (0 : Int) < 1 by decide), rfl⟩ | exact ⟨Int.le_refl _, (show (0 : Int) < ((u :: us).reverse.length : Int) by omega), rfl⟩ | exact ex2 _ (by rw [nth_eq]; exact hz) rfl) ?_; conv => whnf)
      refine ⟨⟨rfl, ?_⟩⟩
      show [[D.lf (.bool (strEq z.lo z.lo && (strEq z.hi z.hi && true)))]] = [[D.lf (.bool true)]]
      rw [e1, e2]; rfl
theorem lawScan_ok : FnOk Try.prog 8 cLawB := fnOk_of fun x => fnX_at tab_ok (SOk.cons drawTreeScan_ok (SOk.cons iTreeScan_ok (SOk.cons sTreeScan_ok (SOk.cons iRangeHas_ok SOk.nil)))) mixed (fn := Try.f8) (code := body Try.f8) ⟨Try.func8, rfl, by kernel_rfl, by kernel_rfl, by kernel_rfl, by kernel_rfl⟩ (ev_lawScan x)
end Go.Vm
