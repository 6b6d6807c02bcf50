/- Contracts: right trees and all pairs of a tree, as the specification tells them. -/
import Derived.Test.YtedffkngbjlgdaaKa
import Derived.WalkKit
import Derived.Lib.Walk
import Derived.Lib.SliceRun
import Derived.Lib.Overlaps
import Derived.Lib.AppendZerosOnto
import Derived.Laws.Externs
import Derived.Laws.IdiomCopy
import Derived.Shelf.RegionOpenPlain
import Derived.Deep.LoopGhost
import Derived.Deep.RegionLaw
import Derived.Lib.SlicesDelete
import Derived.Sort.WalkB12
namespace Go.Vm
open Go.Proofs
set_option maxRecDepth 100000
set_option linter.unusedVariables false
set_option linter.unusedSimpArgs false

def PreEq {α : Type} (l m : List α) (i : Nat) : Prop := ∀ j, j < i → l[j]? = m[j]?
theorem preEq_all {α : Type} {l m : List α} (h : l.length = m.length) (g : PreEq l m l.length) : l = m := by
  apply List.ext_getElem?
  intro j
  rcases Nat.lt_or_ge j l.length with h1 | h1
  · exact g j h1
  · rw [List.getElem?_eq_none h1, List.getElem?_eq_none (by omega)]
theorem PreEq.snoc {α : Type} {l m : List α} {i : Nat} {y : α} (h : PreEq l m i) (hl : l[i]? = some y) (hm : m[i]? = some y) : PreEq l m (i + 1) := fun j hj => by
  rcases Nat.lt_or_ge j i with h1 | h1
  · exact h j h1
  · obtain rfl : j = i := by omega
    rw [hl, hm]
theorem ev_sameNode : ∀ x, evFnX tab [] (cEq NodeX.ds) Try.f63 (body Try.f63) x := by
  rintro ⟨⟨ps, keys, kids⟩, ⟨qs, leys, lids⟩⟩
  have no : (⟨ps, keys, kids⟩ : NodeX) ≠ ⟨qs, leys, lids⟩ → [[D.lf (.bool false)]] = [[D.lf (.bool (eqX (⟨ps, keys, kids⟩ : NodeX) ⟨qs, leys, lids⟩))]] := fun h => by rw [eqX_no.2 h]
  conv => whnf
  intro hl1
  replace hl1 : ps.length ≤ 9223372036854775807 := hl1
  conv => whnf
  intro _
  conv => whnf
  refine br2 (fun h1 => ?_) (fun h1 => ?_)
  · replace h1 : ((ps.length : Int) != (qs.length : Int)) = true := h1
    conv => whnf
    refine ⟨⟨rfl, no ?_⟩⟩
    rintro ⟨⟩; simp at h1
  replace h1 : ((ps.length : Int) != (qs.length : Int)) = false := h1
  have h1' : ps.length = qs.length := by simp at h1; omega
  conv => whnf
  intro hl2
  replace hl2 : keys.length ≤ 9223372036854775807 := hl2
  conv => whnf
  intro _
  conv => whnf
  refine br2 (fun h2 => ?_) (fun h2 => ?_)
  · replace h2 : ((keys.length : Int) != (leys.length : Int)) = true := h2
    conv => whnf
    refine ⟨⟨rfl, no ?_⟩⟩
    rintro ⟨⟩; simp at h2
  replace h2 : ((keys.length : Int) != (leys.length : Int)) = false := h2
  have h2' : keys.length = leys.length := by simp at h2; omega
  conv => whnf
  intro hl3
  replace hl3 : kids.length ≤ 9223372036854775807 := hl3
  conv => whnf
  intro _
  conv => whnf
  refine br2 (fun h3 => ?_) (fun h3 => ?_)
  · replace h3 : ((kids.length : Int) != (lids.length : Int)) = true := h3
    conv => whnf
    refine ⟨⟨rfl, no ?_⟩⟩
    rintro ⟨⟩; simp at h3
  replace h3 : ((kids.length : Int) != (lids.length : Int)) = false := h3
  have h3' : kids.length = lids.length := by simp at h3; omega
  conv => whnf
  intro _
  conv => whnf
  let H0 : Hp := [(32, some (.arr true 3 [[.sl 0 none, .sl 1 none, .sl 2 none]])), (48, some (.arr true 3 [[.sl 16 none, .sl 17 none, .sl 18 none]])), (0, some (.row .lent 2 RngX.ds ps)), (1, some (.row .lent 1 strE1 keys)), (2, some (.row .lent 1 intE1 kids)),
    (16, some (.row .lent 2 RngX.ds qs)), (17, some (.row .lent 1 strE1 leys)), (18, some (.row .lent 1 intE1 lids))]
  let R0 : List (Nat × Nat) := [(32, 32), (48, 48), (0, 0), (1, 1), (2, 2), (16, 16), (17, 17), (18, 18)]
  let S1 : Nat → Sl := fun i => [(36, .lf (.int .i64 i)), (35, .lf (.int .i64 ps.length)), (2, .pt 32 0 0), (3, .pt 48 0 0)]
  refine ⟨fun m s h => ∃ i : Nat, i ≤ ps.length ∧ PreEq ps qs i ∧ m = ps.length - i ∧ s = S1 i ∧ h = H0, ps.length, R0, S1 0, H0, ⟨rfl, ⟨rfl, rfl, rfl, rfl, trivial⟩, rfl, rfl, rfl, rfl, rfl, rfl, rfl, rfl, trivial⟩, ⟨0, by omega, fun j h => by omega, rfl, rfl, rfl⟩, ?_⟩
  rintro m _ _ ⟨i, g1, g2, rfl, rfl, rfl⟩
  conv => whnf
  refine br2 (fun h5 => ?_) (fun h5 => ?_)
  · have hi : i < ps.length := by have := of_decide_eq_true h5; omega
    obtain ⟨y, hy⟩ := getL hi
    obtain ⟨z, hz⟩ := getL (l := qs) (j := i) (by omega)
    conv => whnf
    refine ⟨Int.natCast_nonneg _, ltI hy, ?_⟩
    conv => whnf
    refine ex2 _ (nthI hy) ?_
    conv => whnf
    refine ⟨Int.natCast_nonneg _, ltI hz, ?_⟩
    conv => whnf
    refine ex2 _ (nthI hz) ?_
    conv => whnf
    refine br2 (fun h6 => ?_) (fun h6 => ?_)
    · replace h6 : (!(strEq y.lo z.lo && (strEq y.hi z.hi && true))) = true := h6
      conv => whnf
      refine ⟨⟨rfl, no ?_⟩⟩
      rintro ⟨⟩
      rw [hy] at hz; cases hz
      simp [strEq_refl] at h6
    · replace h6 : (!(strEq y.lo z.lo && (strEq y.hi z.hi && true))) = false := h6
      have e : y = z := by
        simp [strEq_iff] at h6
        obtain ⟨a, b⟩ := y; obtain ⟨c, d⟩ := z
        simp at h6; rw [h6.1, h6.2]
      subst e
      conv => whnf
      exact ⟨ps.length - (i + 1), R0, S1 (i + 1), H0, by omega, ⟨rfl, ⟨incI hi hl1, rfl, rfl, rfl, trivial⟩, rfl, rfl, rfl, rfl, rfl, rfl, rfl, rfl, trivial⟩, i + 1, by omega, g2.snoc hy hz, rfl, rfl, rfl⟩
  have hi : i = ps.length := by have := of_decide_eq_false h5; omega
  subst hi
  obtain rfl := preEq_all h1' g2
  clear g1 g2 h5
  conv => whnf
  intro _
  conv => whnf
  let S2 : Nat → Sl := fun i => [(54, .lf (.int .i64 i)), (53, .lf (.int .i64 keys.length)), (2, .pt 32 0 0), (3, .pt 48 0 0)]
  refine ⟨fun m s h => ∃ i : Nat, i ≤ keys.length ∧ PreEq keys leys i ∧ m = keys.length - i ∧ s = S2 i ∧ h = H0, keys.length, R0, S2 0, H0, ⟨rfl, ⟨rfl, rfl, rfl, rfl, trivial⟩, rfl, rfl, rfl, rfl, rfl, rfl, rfl, rfl, trivial⟩, ⟨0, by omega, fun j h => by omega, rfl, rfl, rfl⟩, ?_⟩
  rintro m _ _ ⟨i, g1, g2, rfl, rfl, rfl⟩
  conv => whnf
  refine br2 (fun h5 => ?_) (fun h5 => ?_)
  · have hi : i < keys.length := by have := of_decide_eq_true h5; omega
    obtain ⟨y, hy⟩ := getL hi
    obtain ⟨z, hz⟩ := getL (l := leys) (j := i) (by omega)
    conv => whnf
    refine ⟨Int.natCast_nonneg _, ltI hy, ?_⟩
    conv => whnf
    refine ex2 _ (nthI hy) ?_
    conv => whnf
    refine ⟨Int.natCast_nonneg _, ltI hz, ?_⟩
    conv => whnf
    refine ex2 _ (nthI hz) ?_
    conv => whnf
    refine br2 (fun h6 => ?_) (fun h6 => ?_)
    · replace h6 : (!strEq y z) = true := h6
      conv => whnf
      refine ⟨⟨rfl, no ?_⟩⟩
      rintro ⟨⟩
      rw [hy] at hz; cases hz
      simp [strEq_refl] at h6
    · replace h6 : (!strEq y z) = false := h6
      have e : y = z := by simpa [strEq_iff] using h6
      subst e
      conv => whnf
      exact ⟨keys.length - (i + 1), R0, S2 (i + 1), H0, by omega, ⟨rfl, ⟨incI hi hl2, rfl, rfl, rfl, trivial⟩, rfl, rfl, rfl, rfl, rfl, rfl, rfl, rfl, trivial⟩, i + 1, by omega, g2.snoc hy hz, rfl, rfl, rfl⟩
  have hi : i = keys.length := by have := of_decide_eq_false h5; omega
  subst hi
  obtain rfl := preEq_all h2' g2
  clear g1 g2 h5
  conv => whnf
  intro _
  conv => whnf
  let S3 : Nat → Sl := fun i => [(72, .lf (.int .i64 i)), (71, .lf (.int .i64 kids.length)), (2, .pt 32 0 0), (3, .pt 48 0 0)]
  refine ⟨fun m s h => ∃ i : Nat, i ≤ kids.length ∧ PreEq kids lids i ∧ m = kids.length - i ∧ s = S3 i ∧ h = H0, kids.length, R0, S3 0, H0, ⟨rfl, ⟨rfl, rfl, rfl, rfl, trivial⟩, rfl, rfl, rfl, rfl, rfl, rfl, rfl, rfl, trivial⟩, ⟨0, by omega, fun j h => by omega, rfl, rfl, rfl⟩, ?_⟩
  rintro m _ _ ⟨i, g1, g2, rfl, rfl, rfl⟩
  conv => whnf
  refine br2 (fun h5 => ?_) (fun h5 => ?_)
  · have hi : i < kids.length := by have := of_decide_eq_true h5; omega
    obtain ⟨y, hy⟩ := getL hi
    obtain ⟨z, hz⟩ := getL (l := lids) (j := i) (by omega)
    conv => whnf
    refine ⟨Int.natCast_nonneg _, ltI hy, ?_⟩
    conv => whnf
    refine ex2 _ (nthI hy) ?_
    conv => whnf
    refine ⟨Int.natCast_nonneg _, ltI hz, ?_⟩
    conv => whnf
    refine ex2 _ (nthI hz) ?_
    conv => whnf
    refine br2 (fun h6 => ?_) (fun h6 => ?_)
    · replace h6 : (y != z) = true := h6
      conv => whnf
      refine ⟨⟨rfl, no ?_⟩⟩
      rintro ⟨⟩
      rw [hy] at hz; cases hz
      simp at h6
    · replace h6 : (y != z) = false := h6
      have e : y = z := by simpa using h6
      subst e
      conv => whnf
      exact ⟨kids.length - (i + 1), R0, S3 (i + 1), H0, by omega, ⟨rfl, ⟨incI hi hl3, rfl, rfl, rfl, trivial⟩, rfl, rfl, rfl, rfl, rfl, rfl, rfl, rfl, trivial⟩, i + 1, by omega, g2.snoc hy hz, rfl, rfl, rfl⟩
  have hi : i = kids.length := by have := of_decide_eq_false h5; omega
  subst hi
  obtain rfl := preEq_all h3' g2
  conv => whnf
  refine ⟨⟨rfl, ?_⟩⟩
  show [[D.lf (.bool true)]] = [[D.lf (.bool (eqX (⟨ps, keys, kids⟩ : NodeX) ⟨ps, keys, kids⟩))]]
  rw [eqX_refl]
theorem sameNode_ok : FnOk Try.prog 63 (cEq NodeX.ds) := fnOk_of fun x => fnX_at tab_ok (SOk.nil) mixed (fn := Try.f63) (code := body Try.f63) ⟨Try.func63, rfl, by kernel_rfl, by kernel_rfl, by kernel_rfl, by kernel_rfl⟩ (ev_sameNode x)
theorem treeP_read {N : List NodeX} (h : TreeP N) (hne : N ≠ []) : ∃ x d, Shp true d x ∧ PairsOkP x.all ∧ N = x.lay 0 ∧ Fit false N 0 x ∧ x.size = N.length ∧ d ≤ 7 ∧ x.deep = d := by
  obtain ⟨o, ho, rfl⟩ := h
  cases o with
  | none => exact absurd rfl hne
  | some x =>
    obtain ⟨d, hd⟩ := ho.shp
    obtain ⟨e1, e2⟩ := fit_all.2 (show x.lay 0 = x.lay 0 from rfl)
    exact ⟨x, d, hd, ho.ok, rfl, e1.noK, e2, hd.deep_le ho.ok.len, hd.deep⟩
theorem ev_sTreeOk : ∀ x, evFnX tab [(1000013, cGh), (1000016, cGh), (28, cSRoot), (59, (pureC FullX [(.rd, true), (.rd, false)] [false] (fun f => [subE f.t.n f.t.x, [.lf (.bool f.root)]]) (fun f => [[.lf (.bool (Tw.full f.root f.t.x))]]))), (60, cSDeep), (30, (pureC PrsS [(.rd, true)] [false] (fun p => [subE p.n p.x]) (fun p => [[.row 2 RngX.ds p.x.all]]))), (61, cPairsOk), (62, cSLay), (63, (cEq NodeX.ds))] cTreeOk Try.f25 (body Try.f25) x := by
  rintro ⟨N, f, hf, hN, hp⟩
  replace hN : N.length ≤ 1048576 := hN
  conv => whnf
  intro _
  conv => whnf
  refine br2 (fun h1 => ?_) (fun h1 => ?_)
  · have h1' : N = [] := by
      replace h1 : ((N.length : Int) == 0) = true := h1
      exact List.eq_nil_of_length_eq_zero (by simpa using h1)
    subst h1'
    conv => whnf
    exact ⟨⟨rfl, true, rfl, fun _ => ⟨none, ⟨trivial, by simp [allO], fun p hp => by simp [allO] at hp, by simp [allO, Srt]⟩, rfl⟩, fun _ => rfl⟩⟩
  have h1' : N ≠ [] := by
    replace h1 : ((N.length : Int) == 0) = false := h1
    rintro rfl; simp at h1
  have no : (∀ x d, Shp true d x → PairsOkP x.all → N = x.lay 0 → Fit false N 0 x → x.size = N.length → x.deep ≤ 13 → False) → (false = true ↔ TreeP N) := fun h =>
    ⟨fun e => (by cases e), fun e => by
      obtain ⟨x, d, a1, a2, a3, a4, a5, a6, a7⟩ := treeP_read e h1'
      exact (h x d a1 a2 a3 a4 a5 (by omega)).elim⟩
  conv => whnf
  intro _
  conv => whnf
  refine br2 (fun h2 => ?_) (fun h2 => ?_)
  · replace h2 : decide ((N.length : Int) > 400) = true := h2
    have h2' := of_decide_eq_true h2
    conv => whnf
    refine ⟨⟨rfl, false, rfl, no fun x d a1 a2 a3 a4 a5 _ => ?_⟩⟩
    have := a1.manyR.2.2.1
    have := a2.len
    omega
  replace h2 : decide ((N.length : Int) > 400) = false := h2
  have h2' := of_decide_eq_false h2
  conv => whnf
  refine ⟨⟨N, f, hf, hN, hp⟩, rfl, ?_⟩
  rintro _ _ ⟨rfl, o, ok, rfl, rs⟩
  replace rs : RootS N o ok := rs
  cases ok with
  | false =>
    have rno := rs.no rfl
    have out : false = true ↔ TreeP N := no fun x d _ _ _ a4 a5 a6 => rno x a4 a5 a6
    rcases o with _ | ⟨us, is⟩
    all_goals
      conv => whnf
      exact ⟨⟨rfl, false, rfl, out⟩⟩
  | true =>
  obtain ⟨⟨us, is⟩, rfl, hxf, hsz, hd⟩ := rs.yes rfl h1'
  have uniq : ∀ x, Fit false N 0 x → x = .mk us is := fun x h => Fit.uniq x _ 0 h hxf
  conv => whnf
  refine ⟨⟨⟨13, .mk us is, hd, by omega⟩, true⟩, rfl, ?_⟩
  rintro _ _ ⟨rfl, rfl⟩
  conv => whnf
  refine br2 (fun h3 => ?_) (fun h3 => ?_)
  · have h3' : Tw.full true (.mk us is) = false := by
      replace h3 : (!Tw.full true (.mk us is)) = true := h3
      simpa using h3
    conv => whnf
    refine ⟨⟨rfl, false, rfl, no fun x d a1 _ _ a4 _ _ => ?_⟩⟩
    rw [uniq x a4] at a1
    rw [a1.full.1] at h3'; cases h3'
  have h3' : Tw.full true (.mk us is) = true := by
    replace h3 : (!Tw.full true (.mk us is)) = false := h3
    simpa using h3
  conv => whnf
  refine ⟨⟨13, .mk us is, hd, by omega⟩, rfl, ?_⟩
  rintro _ _ ⟨rfl, v, rfl, v1, v2, v3⟩
  conv => whnf
  replace v2 : 0 ≤ v → Lev (Tw.mk us is).deep (.mk us is) ∧ v = ((Tw.mk us is).deep : Int) := v2
  replace v3 : v < 0 → ∀ d, ¬ Lev d (.mk us is) := v3
  refine br2 (fun h4 => ?_) (fun h4 => ?_)
  · have h4' : v < 0 := of_decide_eq_true h4
    conv => whnf
    refine ⟨⟨rfl, false, rfl, no fun x d a1 _ _ a4 _ _ => ?_⟩⟩
    rw [uniq x a4] at a1
    exact v3 h4' d a1.full.2
  have h4' : 0 ≤ v := by have h5 : ¬ v < 0 := of_decide_eq_false h4; omega
  obtain ⟨hlev, _⟩ := v2 h4'
  have hshp := Shp.of_full hlev h3'
  have hp4 := hshp.pairs4
  conv => whnf
  refine ⟨⟨13, .mk us is, hshp.prs, hd, by show (Tw.mk us is).all.length ≤ 4294967296; omega⟩, rfl, ?_⟩
  rintro _ _ ⟨rfl, rfl⟩
  conv => whnf
  refine ⟨(Tw.mk us is).all, rfl, ?_⟩
  rintro _ _ ⟨rfl, b, rfl, e⟩
  conv => whnf
  replace e : b = true ↔ PairsOkP (Tw.mk us is).all := e
  refine br2 (fun h5 => ?_) (fun h5 => ?_)
  · have h5' : ¬ PairsOkP (Tw.mk us is).all := fun h => by rw [e.2 h] at h5; cases h5
    conv => whnf
    refine ⟨⟨rfl, false, rfl, no fun x d _ a2 _ a4 _ _ => ?_⟩⟩
    rw [uniq x a4] at a2
    exact h5' a2
  have h5' : PairsOkP (Tw.mk us is).all := e.1 (by cases b <;> first | rfl | cases h5)
  conv => whnf
  refine ⟨3, NodeX, NodeX.ds, fun _ => rfl, ?_⟩
  conv => whnf
  refine ⟨⟨⟨13, .mk us is, true, (Tw.mk us is).deep, hshp, hd⟩, [], by show 0 + (Tw.mk us is).size ≤ 4194304; omega⟩, rfl, ?_⟩
  rintro _ _ ⟨rfl, rfl⟩
  conv => whnf
  intro _
  conv => whnf
  intro _
  conv => whnf
  have hA : ((Tw.mk us is).lay 0).length = N.length := by rw [Tw.lay_len]; exact hsz
  generalize hAe : (Tw.mk us is).lay 0 = A at *
  refine br2 (fun h6 => ?_) (fun h6 => ?_)
  · exfalso
    replace h6 : ((A.length : Int) != (N.length : Int)) = true := h6
    rw [hA] at h6; simp at h6
  conv => whnf
  intro _
  conv => whnf
  let S0 : Nat → Sl := fun i => [(48, .lf (.int .i64 i)), (47, .lf (.int .i64 A.length)), (5, .sl 624 none), (1, .pt 16 0 0)]
  let H0 : Hp := [(624, some (.row .own 3 NodeX.ds A)), (16, some (.arr true 1 [[.sl 0 none]])), (0, some (.row .lent 3 NodeX.ds N))]
  refine ⟨fun m s h => ∃ i : Nat, i ≤ A.length ∧ PreEq A N i ∧ m = A.length - i ∧ s = S0 i ∧ h = H0, A.length, [(624, 624), (16, 16), (0, 0)], S0 0, H0, ⟨rfl, ⟨rfl, rfl, rfl, rfl, trivial⟩, rfl, rfl, rfl, trivial⟩, ⟨0, by omega, fun j h => by omega, rfl, rfl, rfl⟩, ?_⟩
  rintro m _ _ ⟨i, g1, g2, rfl, rfl, rfl⟩
  conv => whnf
  refine br2 (fun h7 => ?_) (fun h7 => ?_)
  · have hi : i < A.length := by have := of_decide_eq_true h7; omega
    obtain ⟨y, hy⟩ := getL hi
    obtain ⟨z, hz⟩ := getL (l := N) (j := i) (by omega)
    conv => whnf
    refine ⟨[.foc 624 i 1000], ?_⟩
    conv => whnf
    refine ex2 y (by rw [nth_eq]; exact hy) ?_
    conv => whnf
    refine ⟨Int.natCast_nonneg _, ltI hy, ?_⟩
    conv => whnf
    refine ⟨Int.toNat_natCast i, ?_⟩
    conv => whnf
    refine ⟨Int.natCast_nonneg _, ltI hz, ?_⟩
    conv => whnf
    refine ex2 _ (nthI hz) ?_
    conv => whnf
    refine ⟨(y, z), rfl, ?_⟩
    rintro _ _ ⟨rfl, rfl⟩
    conv => whnf
    repeat ((first | refine rc_i rfl ?_ | refine rc_i (fun _ => rfl) ?_); conv => whnf)
    refine br2 (fun h8 => ?_) (fun h8 => ?_)
    · have h8' : y ≠ z := by
        replace h8 : (!eqX y z) = true := h8
        rw [Bool.not_eq_true', eqX_no] at h8; exact h8
      conv => whnf
      refine ⟨⟨rfl, false, rfl, no fun x d a1 a2 a3 a4 _ _ => ?_⟩⟩
      rw [uniq x a4, hAe] at a3
      rw [a3, hy] at hz
      exact h8' (Option.some.inj hz)
    · have h8' : y = z := by
        replace h8 : (!eqX y z) = false := h8
        rw [Bool.not_eq_false', eqX_iff] at h8; exact h8
      subst h8'
      conv => whnf
      refine ⟨[.unf 624], ?_⟩
      conv => whnf
      refine ⟨y, rfl, ?_⟩
      conv => whnf
      refine ⟨A.length - (i + 1), [(624, 624), (16, 16), (0, 0)], S0 (i + 1), H0, by omega, ⟨rfl, ⟨incI hi (by omega), rfl, rfl, rfl, trivial⟩, ?_, rfl, rfl, trivial⟩, i + 1, by omega, g2.snoc hy hz, rfl, rfl, rfl⟩
      show _ = some (Ob.row Kind.own 3 NodeX.ds A)
      have : A.set i y = A := by
        apply List.ext_getElem?
        intro j
        rw [List.getElem?_set]
        split
        · rename_i e; subst e; exact hy.symm
        · rfl
      show some (Ob.row Kind.own 3 NodeX.ds (A.set i y)) = _
      rw [this]
  · have hi : i = A.length := by have := of_decide_eq_false h7; omega
    subst hi
    have := preEq_all hA g2
    conv => whnf
    exact ⟨⟨rfl, true, rfl, fun _ => ⟨some (.mk us is), ⟨⟨_, hshp⟩, h5'⟩, this.symm.trans hAe.symm⟩, fun _ => rfl⟩⟩
theorem sTreeOk_ok : FnOk Try.prog 25 cTreeOk := fnOk_of fun x => fnX_at tab_ok (SOk.cons gh_ok (SOk.cons gh_ok (SOk.cons sRoot_ok (SOk.cons sFull_ok (SOk.cons sDeep_ok (SOk.cons sPairs_ok (SOk.cons sPairsOk_ok (SOk.cons sLay_ok (SOk.cons sameNode_ok SOk.nil))))))))) mixed (fn := Try.f25) (code := body Try.f25) ⟨Try.func25, rfl, by kernel_rfl, by kernel_rfl, by kernel_rfl, by kernel_rfl⟩ (ev_sTreeOk x)
theorem ev_sTreeAll : ∀ x, evFnX tab [(25, cTreeOk), (28, cSRoot), (30, (pureC PrsS [(.rd, true)] [false] (fun p => [subE p.n p.x]) (fun p => [[.row 2 RngX.ds p.x.all]])))] cTreeAll Try.f43 (body Try.f43) x := by
  rintro ⟨N, f, hf, hN, hp⟩
  replace hN : N.length ≤ 1048576 := hN
  conv => whnf
  refine ⟨⟨N, f, hf, hN, hp⟩, rfl, ?_⟩
  rintro _ _ ⟨rfl, b, rfl, e⟩
  conv => whnf
  replace e : b = true ↔ TreeP N := e
  refine br2 (fun h1 => ?_) (fun h1 => ?_)
  · have h1' : ¬ TreeP N := fun h => by rw [e.2 h] at h1; cases h1
    conv => whnf
    refine ⟨2, RngX, RngX.ds, fun _ => rfl, ?_⟩
    conv => whnf
    exact ⟨⟨rfl, [], rfl, fun o ho e => absurd ⟨o, ho, e⟩ h1', fun _ => rfl⟩⟩
  have h1' : TreeP N := e.1 (by cases b <;> first | rfl | cases h1)
  conv => whnf
  refine ⟨⟨N, f, hf, hN, hp⟩, rfl, ?_⟩
  rintro _ _ ⟨rfl, o, ok, rfl, rs⟩
  replace rs : RootS N o ok := rs
  have fin : ∀ x : Tw, (N = [] → x = .mk [] []) → (N ≠ [] → Fit false N 0 x) → AllR N x.all := by
    intro x g1 g2
    refine ⟨fun o ho e => ?_, fun h => absurd h1' h⟩
    by_cases hne : N = []
    · rw [g1 hne]
      rw [hne] at e
      rw [layO_nil.1 e.symm]; rfl
    · obtain ⟨y, d, a1, a2, a3, a4, a5, a6, a7⟩ := treeP_read h1' hne
      have h2 := Fit.uniq x y 0 (g2 hne) a4
      rw [h2]
      rw [a3] at e
      rw [← layO_inj (o := some y) e]; rfl
  obtain ⟨us, is, rfl, rfl, g1, g2, g3, g4⟩ : ∃ us is, o = some (.mk us is) ∧ ok = true ∧ (N = [] → Tw.mk us is = .mk [] []) ∧ (N ≠ [] → Fit false N 0 (.mk us is)) ∧ (Tw.mk us is).deep ≤ 13 ∧ (Tw.mk us is = .mk [] [] ∨ ∃ b d, Shp b d (.mk us is)) := by
    by_cases hne : N = []
    · obtain ⟨rfl, rfl⟩ := rs.emp hne
      exact ⟨[], [], rfl, rfl, fun _ => rfl, fun h => absurd hne h, by simp [Tw.deep, Tw.deeps], .inl rfl⟩
    · obtain ⟨y, d, a1, a2, a3, a4, a5, a6, a7⟩ := treeP_read h1' hne
      cases ok with
      | false => exact absurd (show y.deep ≤ 13 by omega) (rs.no rfl y a4 a5)
      | true =>
        obtain ⟨x, rfl, b1, b2, b3⟩ := rs.yes rfl hne
        have := Fit.uniq x y 0 b1 a4
        subst this
        obtain ⟨us, is⟩ := x
        exact ⟨us, is, rfl, rfl, fun h => absurd h hne, fun _ => b1, b3, .inr ⟨_, _, a1⟩⟩
  have hlen : (Tw.mk us is).all.length ≤ 4294967296 := by
    obtain ⟨o', ho', e'⟩ := h1'
    rw [(fin _ g1 g2).yes o' ho' e']
    have := ho'.ok.len
    omega
  conv => whnf
  refine ⟨⟨13, .mk us is, prs_of g4, g3, hlen⟩, rfl, ?_⟩
  rintro _ _ ⟨rfl, rfl⟩
  conv => whnf
  exact ⟨⟨rfl, _, rfl, fin _ g1 g2⟩⟩
theorem sTreeAll_ok : FnOk Try.prog 43 cTreeAll := fnOk_of fun x => fnX_at tab_ok (SOk.cons sTreeOk_ok (SOk.cons sRoot_ok (SOk.cons sPairs_ok SOk.nil))) mixed (fn := Try.f43) (code := body Try.f43) ⟨Try.func43, rfl, by kernel_rfl, by kernel_rfl, by kernel_rfl, by kernel_rfl⟩ (ev_sTreeAll x)
end Go.Vm
namespace Go.Vm
open Go.Proofs
set_option maxRecDepth 100000
set_option linter.unusedVariables false
set_option linter.unusedSimpArgs false

theorem cut3 {α : Type} (l : List α) : (l.drop 3).take ((l.length : Int) - 3).toNat = l.drop 3 := List.take_of_length_le (by rw [List.length_drop]; omega)
theorem le_strLt {a b : ByteArray} (h : (strLt a b || strEq a b) = true) : strLt b a = false := by
  rw [Bool.or_eq_true] at h
  rcases h with h | h
  · exact lt_asym h
  · rw [strEq_iff] at h; subst h; exact strLt_irrefl _
theorem nle_strLt {a b : ByteArray} (h : (strLt a b || strEq a b) = false) : strLt b a = true := by
  rw [Bool.or_eq_false_iff] at h
  cases e : strLt b a with
  | true => rfl
  | false =>
    have := strLt_tri h.1 e
    subst this
    rw [strEq_refl] at h; cases h.2
end Go.Vm
namespace Go.Vm
open Go.Proofs
set_option maxRecDepth 100000
set_option linter.unusedVariables false
set_option linter.unusedSimpArgs false

structure KidX where
  n : Nat
  ps : List RngX
  ks : List Tw
  d : Nat
  h : ∀ k ∈ ks, Shp false d k
  hn : d ≤ n
  h4 : ks.length ≤ 5
  h1 : 1 ≤ ks.length
  key : ByteArray
def cKid : Con := relC KidX [(.rd, false), (.rd, false)] [false] (fun t => [twE (t.n + 1) (.mk t.ps t.ks), [.lf (.string t.key)]]) (fun t r => ∃ i : Nat, r = [[.lf (.int .i64 i)]] ∧ Way t.ks t.key i)
theorem ev_kid : ∀ x, evFnX tab [(93, cLeast)] cKid Try.f96 (body Try.f96) x := by
  rintro ⟨n, ps, ks, d, h, hn, h4, h1, key⟩
  replace h : ∀ k ∈ ks, Shp false d k := h
  replace hn : d ≤ n := hn
  replace h4 : ks.length ≤ 5 := h4
  replace h1 : 1 ≤ ks.length := h1
  obtain ⟨n, rfl⟩ : ∃ m, n = m + 1 := by
    obtain ⟨k, hk⟩ := getL (l := ks) (j := 0) (by omega)
    have := (h k (List.mem_of_getElem? hk)).pos
    exact ⟨n - 1, by omega⟩
  conv => whnf
  let S0 : Nat → Sl := fun i => [(5, .lf (.int .i64 i)), (1, .lf (.string key)), (0, .pt 0 0 0)]
  let H0 : Hp := [(0, some (.arr false 2 [[.sl 1 none, .sl 2 none]])), (1, some (.row .lent 2 RngX.ds ps)), (2, some (.row .lent 1 (twE (n + 1)) ks))]
  refine ⟨fun m s h => ∃ i : Nat, i < ks.length ∧ (i = 0 ∨ ∃ c, ks[i]? = some c ∧ strLt key c.least = false) ∧ m = ks.length - i ∧ s = S0 i ∧ h = H0, ks.length, [(0, 0), (1, 1), (2, 2)], S0 0, H0, ⟨rfl, ⟨rfl, rfl, rfl, trivial⟩, rfl, rfl, rfl, trivial⟩, ⟨0, by omega, .inl rfl, by omega, rfl, rfl⟩, ?_⟩
  rintro m _ _ ⟨i, g1, g2, rfl, rfl, rfl⟩
  have hw : IntKind.i64.wrap ((i : Int) + 1) = ((i + 1 : Nat) : Int) := by rw [w64 (by omega) (by omega)]; omega
  conv => whnf
  intro _
  conv => whnf
  refine br2 (fun h5 => ?_) (fun h5 => ?_)
  · have hi : i + 1 < ks.length := by
      replace h5 : decide (IntKind.i64.wrap ((i : Int) + 1) < (ks.length : Int)) = true := h5
      rw [hw] at h5
      have := of_decide_eq_true h5; omega
    obtain ⟨y, hy⟩ := getL hi
    have hys := h y (List.mem_of_getElem? hy)
    obtain ⟨us, is⟩ := y
    conv => whnf
    refine ⟨(ixE hw hy).1, (ixE hw hy).2, ?_⟩
    conv => whnf
    refine ex2 _ (nthE hw hy) ?_
    conv => whnf
    refine ⟨⟨n + 1, .mk us is, false, d, hys, hn⟩, rfl, ?_⟩
    rintro _ _ ⟨rfl, rfl⟩
    conv => whnf
    refine br2 (fun h6 => ?_) (fun h6 => ?_)
    · have h6' := le_strLt h6
      conv => whnf
      refine ⟨ks.length - (i + 1), [(0, 0), (1, 1), (2, 2)], S0 (i + 1), H0, by omega, ⟨rfl, ⟨?_, rfl, rfl, trivial⟩, rfl, rfl, rfl, trivial⟩, i + 1, hi, .inr ⟨_, hy, h6'⟩, rfl, rfl, rfl⟩
      show V.lf (.int .i64 (IntKind.i64.wrap ((i : Int) + 1))) = _
      rw [hw]
    · have h6' := nle_strLt h6
      conv => whnf
      refine ⟨⟨rfl, i, rfl, g1, g2, fun c hc => ?_⟩⟩
      replace hc : ks[i + 1]? = some c := hc
      rw [hy] at hc; cases hc; exact h6'
  · have hi : ¬ i + 1 < ks.length := by
      replace h5 : decide (IntKind.i64.wrap ((i : Int) + 1) < (ks.length : Int)) = false := h5
      rw [hw] at h5
      have := of_decide_eq_false h5; omega
    conv => whnf
    refine ⟨⟨rfl, i, rfl, g1, g2, fun c hc => ?_⟩⟩
    exact absurd (List.getElem?_eq_some_iff.1 hc).1 hi
theorem kid_ok : FnOk Try.prog 96 cKid := fnOk_of fun x => fnX_at tab_ok (SOk.cons least_ok SOk.nil) mixed (fn := Try.f96) (code := body Try.f96) ⟨Try.func96, rfl, by kernel_rfl, by kernel_rfl, by kernel_rfl, by kernel_rfl⟩ (ev_kid x)
end Go.Vm
namespace Go.Vm
set_option linter.unusedVariables false
set_option linter.unusedSimpArgs false
def insV {β : Type _} (i : Nat) (vals : Nat → Nat → β) (pv : Nat → β) (j f : Nat) : β := if j < i then vals j f else if j = i then pv f else vals (j - 1) f
def insAt {α : Type} (l : List α) (i : Nat) (p : α) : List α := l.take i ++ p :: l.drop i
theorem insAt_len {α : Type} (l : List α) (i : Nat) (p : α) : (insAt l i p).length = l.length + 1 := by unfold insAt; simp; omega
theorem insAt_get {α : Type} {l : List α} {i : Nat} (p : α) (hi : i ≤ l.length) (j : Nat) : (insAt l i p)[j]? = if j < i then l[j]? else if j = i then some p else l[j - 1]? := by
  unfold insAt
  have hl : (l.take i).length = i := by rw [List.length_take]; omega
  by_cases h1 : j < i
  · rw [if_pos h1, List.getElem?_append_left (by omega), List.getElem?_take, if_pos h1]
  · rw [if_neg h1, List.getElem?_append_right (by omega), hl]
    by_cases h2 : j = i
    · subst h2; rw [if_pos rfl, Nat.sub_self]; rfl
    · rw [if_neg h2, show j - i = (j - 1 - i) + 1 by omega, List.getElem?_cons_succ, List.getElem?_drop]
      congr 1; omega
theorem dat_ins {α : Type} {enc : α → List D} {l : List α} {i : Nat} (p : α) (hi : i ≤ l.length) (j f : Nat) : dat enc (insAt l i p) j f = insV i (fun j f => dat enc l j f) (fun f => (enc p).getD f .dead) j f := by
  unfold insV
  have h := insAt_get p hi j
  by_cases h1 : j < i
  · rw [if_pos h1] at h ⊢; unfold dat; rw [h]
  · rw [if_neg h1] at h ⊢
    by_cases h2 : j = i
    · rw [if_pos h2] at h ⊢; unfold dat; rw [h]
    · rw [if_neg h2] at h ⊢; unfold dat; rw [h]
/-- A row with one more: its elements' data lie as they lay. -/
theorem ins_own {w w' : World} {Kp : Nat → Prop} {sz : Nat} {α : Type} {enc : α → List D} {l : List α} {p : α} {i : Nat} (hz : ∀ a, (enc a).length = sz) (hi : i ≤ l.length) (hm : l.length + 1 ≤ 9223372036854775807)
    {vals : Nat → Nat → Value} {G : Nat → Nat → Nat → Prop} {pv : Nat → Value} {Gp : Nat → Nat → Prop}
    (g1 : ∀ i f, i < l.length → f < sz → Own w Kp (G i f) (vals i f) (dat enc l i f))
    (g2 : ∀ i f j g, i < l.length → f < sz → j < l.length → g < sz → (i ≠ j ∨ f ≠ g) → ∀ x, G i f x → ¬ G j g x)
    (p1 : ∀ f, f < sz → Own w Kp (Gp f) (pv f) ((enc p).getD f .dead))
    (p2 : ∀ f g, f < sz → g < sz → f ≠ g → ∀ x, Gp f x → ¬ Gp g x)
    (gp : ∀ i f g, i < l.length → f < sz → g < sz → ∀ x, G i f x → ¬ Gp g x)
    {b o c : Nat} (hb : b < w'.heap.size) (hc : l.length + 1 ≤ c)
    (hcap : ∀ j, j < c * sz → (∃ x, w'.cell? ⟨b, o + j, none⟩ = some x) ∧ w'.frozen? ⟨b, o + j, none⟩ = false)
    (hv : ∀ j f, j < l.length + 1 → f < sz → w'.cell? ⟨b, o + (j * sz + f), none⟩ = some (insV i vals pv j f))
    (hbG : ∀ i f, i < l.length → f < sz → ¬ G i f b) (hbp : ∀ f, f < sz → ¬ Gp f b)
    (hw : ∀ x, (∃ i f, i < l.length ∧ f < sz ∧ G i f x) ∨ (∃ f, f < sz ∧ Gp f x) ∨ Kp x → w'.heap[x]? = w.heap[x]?) :
    Own w' Kp (fun x => x = b ∨ ∃ j f, j < l.length + 1 ∧ f < sz ∧ insV i G Gp j f x) (.slice (some ⟨b, o, none⟩) (l.length + 1) c) (.row sz enc (insAt l i p)) := by
  refine .row (insV i vals pv) (insV i G Gp) (insAt_len l i p).symm hb hc hm hcap hz hv (fun j f hj hf => ?_) (fun j f k g hj hf hk hg hne x => ?_) (fun j f hj hf => ?_) fun x => Iff.rfl
  · rw [dat_ins p hi]
    unfold insV
    split
    · exact (g1 j f (by omega) hf).frame (fun x hx => hw x (.inl ⟨j, f, by omega, hf, hx⟩)) fun x hx => hw x (.inr (.inr hx))
    · split
      · exact (p1 f hf).frame (fun x hx => hw x (.inr (.inl ⟨f, hf, hx⟩))) fun x hx => hw x (.inr (.inr hx))
      · exact (g1 (j - 1) f (by omega) hf).frame (fun x hx => hw x (.inl ⟨j - 1, f, by omega, hf, hx⟩)) fun x hx => hw x (.inr (.inr hx))
  · unfold insV
    split
    · split
      · exact g2 j f k g (by omega) hf (by omega) hg hne x
      · split
        · exact gp j f g (by omega) hf hg x
        · exact g2 j f (k - 1) g (by omega) hf (by omega) hg (.inl (by omega)) x
    · split
      · split
        · exact fun h h' => gp k g f (by omega) hg hf x h' h
        · split
          · exact p2 f g hf hg (by omega) x
          · exact fun h h' => gp (k - 1) g f (by omega) hg hf x h' h
      · split
        · exact g2 (j - 1) f k g (by omega) hf (by omega) hg (.inl (by omega)) x
        · split
          · exact gp (j - 1) f g (by omega) hf hg x
          · exact g2 (j - 1) f (k - 1) g (by omega) hf (by omega) hg (by omega) x
  · unfold insV
    split
    · exact hbG j f (by omega) hf
    · split
      · exact hbp f hf
      · exact hbG (j - 1) f (by omega) hf
end Go.Vm
namespace Go.Vm
open Go.Proofs Go.RowKit
set_option linter.unusedVariables false
set_option linter.unusedSimpArgs false
theorem part1 {D1 : (Nat → Prop) → Value → D → Prop} {v : Value} {d : D} {F : Nat → Prop} {cs : List Value} (hc : CellsOf false v cs) (h : Part D1 cs [d] F) : D1 F v d := by
  obtain ⟨h1, G, h2, h3, h4⟩ := h
  have e : cs = [v] := hc.1
  subst e
  have := h2 0 (by simp)
  have eF : F = G 0 := funext fun x => propext ⟨fun hx => by
    obtain ⟨f, hf, hx⟩ := (h4 x).1 hx
    obtain rfl : f = 0 := by simp at hf; omega
    exact hx, fun hx => (h4 x).2 ⟨0, by simp, hx⟩⟩
  rw [eF]; exact this
theorem args_ins {w : World} {R Kp : Nat → Prop} {d1 d3 : D} {a : Value} : ∀ {args : List Value} {Fs : List (Nat → Prop)}, ArgsR w R Kp [(.take, false), (.rd, false), (.take, false)] [[d1], [.lf a], [d3]] args Fs →
    ∃ v1 v3 F1 F2 F3, args = [v1, a, v3] ∧ Fs = [F1, F2, F3] ∧ Own w Kp F1 v1 d1 ∧ (∀ x, ¬ F2 x) ∧ Own w Kp F3 v3 d3
  | [x, y, z], [F, G, H], h => by
    obtain ⟨⟨cs, hc, hp⟩, ⟨cs', hc', hp'⟩, ⟨cs2, hc2, hp2⟩, _⟩ := h
    have h1 : Own w Kp F x d1 := part1 hc hp
    have h2 : Ro w R y (.lf a) ∧ ∀ x, ¬ G x := part1 (D1 := ArgD .rd w R Kp) hc' hp'
    have h3 : Own w Kp H z d3 := part1 hc2 hp2
    obtain ⟨e1, e2⟩ := h2
    obtain rfl : y = a := (Ro.lf_inv e1).1
    exact ⟨x, z, F, G, H, rfl, rfl, h1, e2, h3⟩
  | [], _, h => h.elim
  | [_], [], h => h.elim
  | [_], _ :: _, h => h.2.elim
  | _ :: _ :: _, [], h => h.elim
  | [_, _], [_], h => h.2.elim
  | [_, _], _ :: _ :: _, h => h.2.2.elim
  | _ :: _ :: _ :: _, [_], h => h.2.elim
  | _ :: _ :: _ :: _, [_, _], h => h.2.2.elim
  | _ :: _ :: _ :: _ :: _, _ :: _ :: _ :: _, h => h.2.2.2.elim
  | [_, _, _], _ :: _ :: _ :: _ :: _, h => h.2.2.2.elim
structure InsX (α : Type) where
  l : List α
  i : Nat
  p : α
  hi : i ≤ l.length
  hl : l.length ≤ 2000000
def cIns {α : Type} (sz : Nat) (enc : α → List D) : Con := { X := InsX α, params := [(.take, false), (.rd, false), (.take, false)], res := [false], resOwn := true, ins := fun x => [[.row sz enc x.l], [.lf (.int .i64 x.i)], [.row sz enc [x.p]]], post := fun x outs r => outs = [] ∧ r = [[.row sz enc (insAt x.l x.i x.p)]] }
/-- An outcome of one result, and nothing given back. -/
theorem out_one {c : Con} {x : c.X} {w w' : World} {args : List Value} {Kp : Nat → Prop} {Fs : List (Nat → Prop)} {v : Value} {d : D} {H : Nat → Prop} (hres : c.res = [false]) (hown : c.resOwn = true) (hmut : mutsW c.params args = [])
    (hpost : c.post x [] [[d]]) (hsh : Shape w w') (hfr : ∀ b, b < w.heap.size → ¬ AnyF Fs b → w'.heap[b]? = w.heap[b]?) (ho : Own w' Kp H v d) (hsrc : ∀ x, H x → w.heap.size ≤ x ∨ AnyF Fs x) (hcl : ∀ x, H x → Cl w' x) :
    ∃ outs res N rs Hs Os, Out c x w args Kp Fs v w' outs res N rs Hs Os := by
  refine ⟨[], [[d]], fun _ => False, [v], [H], [], hpost, hsh, hfr, fun _ h => h.elim, ?_, rfl, ?_, ?_, ?_, ?_⟩
  · rw [hres, hown]
    refine ⟨⟨[v], ⟨rfl, ho.one⟩, rfl, fun _ => H, fun f hf => ?_, fun f g hf hg hne => ?_, fun x => ⟨fun hx => ⟨0, by simp, hx⟩, fun ⟨_, _, hx⟩ => hx⟩⟩, trivial⟩
    · obtain rfl : f = 0 := by simp at hf; omega
      exact ho.mono fun _ h => .inl h
    · exfalso; simp at hf hg; omega
  · rw [hmut]; trivial
  · exact List.pairwise_singleton _ _
  · rintro y ⟨F, hF, hy⟩
    simp at hF
    subst hF
    exact ⟨ho.lt y hy, fun h => h, hsrc y hy⟩
  · rintro y ⟨F, hF, hy⟩
    simp at hF
    subst hF
    exact hcl y hy
end Go.Vm
namespace Go.Vm
open Go.Proofs Go.RowKit Go.Lib
set_option linter.unusedVariables false
set_option linter.unusedSimpArgs false
variable {P : Program}
theorem run_copyN (w : World) (dT sT ty elem : TypeId) (b o dLen dCap : Nat) (a : Addr) (sLen sCap sz k : Nat) (cs : List Value)
    (hu : P.underlying dT = some (.slice elem)) (hs : (P.info? elem).map (·.size) = some sz) (hk : k = Nat.min sLen dLen) (hn : cs.length = k * sz)
    (hsrc : ∀ j v, cs[j]? = some v → w.cell? (a.add j) = some v) (hc : ∀ j, j < cs.length → (w.cell? ⟨b, o + j, none⟩).isSome = true) (hf : ∀ j, j < cs.length → w.frozen? ⟨b, o + j, none⟩ = false) (h1 : ∀ v ∈ cs, v.oneCell' = true) :
    (Builtin.copy_ #[dT, sT] ty #[.slice (some ⟨b, o, none⟩) dLen dCap, .slice (some a) sLen sCap]).run P w = .ok (goInt k) (w.setCells b o cs) := by
  have hl := run_loadCells_list (P := P) w a cs hsrc
  have hst := run_storeCells_cells (P := P) b o cs 0 w (by simpa using hc) (by simpa using hf) h1
  cases hq : P.info? elem with
  | none => simp [hq] at hs
  | some i =>
    have hi : i.size = sz := by simpa [hq] using hs
    rw [hn] at hl
    simp [Builtin.copy_, run_underlying hu, Builtin.lenOf, Builtin.firstCells, sizeOf, typeInfo, hq, hi, ← hk, hl, hst]
end Go.Vm
namespace Go.Vm
open Go.Proofs Go.RowKit
set_option linter.unusedVariables false
set_option linter.unusedSimpArgs false
theorem mul_lt {j i sz f : Nat} (h : j < i) (hf : f < sz) : j * sz + f < i * sz := by
  have : (j + 1) * sz ≤ i * sz := Nat.mul_le_mul_right sz h
  rw [Nat.succ_mul] at this; omega
theorem in_setC {w : World} {b o : Nat} {vs : List Value} {k : Nat} {v : Value} (h : ∀ j, j < vs.length → (w.cell? ⟨b, o + j, none⟩).isSome = true) (hk : vs[k]? = some v) : (w.setCells b o vs).cell? ⟨b, o + k, none⟩ = some v := by
  obtain ⟨h1, rfl⟩ := List.getElem?_eq_some_iff.1 hk
  exact World.cell?_setCells_in b vs o w h k h1
theorem out_setC {w : World} {b o : Nat} {vs : List Value} {k : Nat} (h : k < o ∨ o + vs.length ≤ k) : (w.setCells b o vs).cell? ⟨b, k, none⟩ = w.cell? ⟨b, k, none⟩ :=
  World.cell?_setCells_out b vs o w ⟨b, k, none⟩ (fun _ _ => h)
/-- The cells after a shift in place, or in a new row. -/
theorem ins_cells {w : World} {b o sz n i : Nat} {vals : Nat → Nat → Value} {pv : Nat → Nat → Value} (hi : i < n) (hsp : ∀ j, j < (n + 1) * sz → (w.cell? ⟨b, o + j, none⟩).isSome = true)
    (hfront : ∀ j f, j < i → f < sz → w.cell? ⟨b, o + (j * sz + f), none⟩ = some (vals j f)) :
    ∀ j f, j < n + 1 → f < sz → ((w.setCells b (o + (i + 1) * sz) ((flatV sz n vals).drop (i * sz))).setCells b (o + i * sz) (flatV sz 1 pv)).cell? ⟨b, o + (j * sz + f), none⟩ = some (insV i vals (pv 0) j f) := by
  intro j f hj hf
  have hl1 : (flatV sz n vals).length = n * sz := flatV_len ..
  have hl2 : (flatV sz 1 pv).length = sz := by rw [flatV_len]; omega
  have hd : ((flatV sz n vals).drop (i * sz)).length = n * sz - i * sz := by rw [List.length_drop, hl1]
  have hin : i * sz + sz ≤ n * sz := by have := Nat.mul_le_mul_right sz hi; rwa [Nat.succ_mul] at this
  have hn1 : (n + 1) * sz = n * sz + sz := Nat.succ_mul ..
  have hi1 : (i + 1) * sz = i * sz + sz := Nat.succ_mul ..
  have hW : ∀ k, k < (n + 1) * sz → ((w.setCells b (o + (i + 1) * sz) ((flatV sz n vals).drop (i * sz))).cell? ⟨b, o + k, none⟩).isSome = true := by
    intro k hk
    by_cases h : (i + 1) * sz ≤ k
    · obtain ⟨q, rfl⟩ : ∃ q, k = (i + 1) * sz + q := ⟨k - (i + 1) * sz, by omega⟩
      have hq : q < ((flatV sz n vals).drop (i * sz)).length := by rw [hd]; omega
      rw [← Nat.add_assoc, in_setC (v := ((flatV sz n vals).drop (i * sz))[q]) (fun j hj => by rw [Nat.add_assoc]; exact hsp _ (by rw [hd] at hj; omega)) (List.getElem?_eq_getElem hq)]; rfl
    · rw [out_setC (by omega)]; exact hsp k hk
  unfold insV
  by_cases h1 : j < i
  · have := mul_lt h1 hf
    rw [if_pos h1, out_setC (by omega), out_setC (by omega)]
    exact hfront j f h1 hf
  rw [if_neg h1]
  by_cases h2 : j = i
  · subst h2
    rw [if_pos rfl, ← Nat.add_assoc]
    refine in_setC (fun k hk => by rw [Nat.add_assoc]; exact hW _ (by rw [hl2] at hk; omega)) ?_
    have := flatV_get (sz := sz) (n := 1) (vals := pv) (i := 0) (f := f) (by omega) hf
    rwa [Nat.zero_mul, Nat.zero_add] at this
  rw [if_neg h2]
  obtain ⟨k, rfl⟩ : ∃ k, j = k + 1 := ⟨j - 1, by omega⟩
  have hk1 : (k + 1) * sz = k * sz + sz := Nat.succ_mul ..
  have hki : i * sz ≤ k * sz := Nat.mul_le_mul_right sz (by omega)
  rw [out_setC (.inr (by rw [hl2]; omega)), show o + ((k + 1) * sz + f) = o + (i + 1) * sz + (k * sz + f - i * sz) by omega]
  refine in_setC (fun q hq => by rw [Nat.add_assoc]; exact hsp _ (by rw [hd] at hq; omega)) ?_
  rw [List.getElem?_drop, show i * sz + (k * sz + f - i * sz) = k * sz + f by omega]
  exact flatV_get (by omega) hf
end Go.Vm
namespace Go.Vm
open Go.Proofs Go.RowKit
set_option linter.unusedVariables false
set_option linter.unusedSimpArgs false
variable {P : Program} {f : FuncId}
def ShiftOk (P : Program) (f : FuncId) (sz : Nat) : Prop := ∀ (b off n c i vb voff vc : Nat) (cs vs : List Value) (w : World), i < n → n + 1 ≤ c → n + 1 ≤ 9223372036854775807 → vb ≠ b → cs.length = n * sz → vs.length = sz →
  (∀ j v, cs[j]? = some v → w.cell? ⟨b, off + j, none⟩ = some v) → (∀ j, j < (n + 1) * sz → (w.cell? ⟨b, off + j, none⟩).isSome = true) → (∀ j, j < (n + 1) * sz → w.frozen? ⟨b, off + j, none⟩ = false) →
  (∀ j v, vs[j]? = some v → w.cell? ⟨vb, voff + j, none⟩ = some v) → (∀ v ∈ cs, v.oneCell' = true) → (∀ v ∈ vs, v.oneCell' = true) →
  ∀ (tA tB : TypeId) (kA kB : Nat), w.shape? vb = some (tA, kA) → w.shape? b = some (tB, kB) → kB ≠ 0 → w.frozen? ⟨vb, voff, none⟩ = false → w.frozen? ⟨vb, kA, none⟩ = false →
  Calls P f #[.slice (some ⟨b, off, none⟩) n c, .int .i64 i, .slice (some ⟨vb, voff, none⟩) 1 vc] w fun e w' =>
      e = .returned (.slice (some ⟨b, off, none⟩) (n + 1) c) ∧ w' = (w.drew.setCells b (off + (i + 1) * sz) (cs.drop (i * sz))).setCells b (off + i * sz) vs
def GrowOk (P : Program) (f : FuncId) (sz : Nat) (t : TypeId) : Prop := ∀ (b off n c i vb voff vc : Nat) (cs vs : List Value) (w : World), i < n → n ≤ c → c < n + 1 → n ≤ 2000000 → cs.length = n * sz → vs.length = sz → b < w.heap.size → vb < w.heap.size →
  (∀ j v, cs[j]? = some v → w.cell? ⟨b, off + j, none⟩ = some v) → (∀ j v, vs[j]? = some v → w.cell? ⟨vb, voff + j, none⟩ = some v) → (∀ v ∈ cs, v.oneCell' = true) → (∀ v ∈ vs, v.oneCell' = true) →
  Calls P f #[.slice (some ⟨b, off, none⟩) n c, .int .i64 i, .slice (some ⟨vb, voff, none⟩) 1 vc] w fun e w' =>
      ∃ (G : Nat) (ROW : Array Value), n + 1 ≤ G ∧ ROW.size = G * sz ∧ (∀ j v, j < i * sz → cs[j]? = some v → ROW[j]? = some v) ∧ e = .returned (.slice (some ⟨w.heap.size, 0, none⟩) (n + 1) G) ∧
      w' = (((w.alloc (.cells ROW t)).drew.setCells w.heap.size (i * sz) vs).drew).setCells w.heap.size ((i + 1) * sz) (cs.drop (i * sz))
theorem shape_of {w : World} {b o : Nat} {v : Value} (h : w.cell? ⟨b, o, none⟩ = some v) : ∃ t k, w.shape? b = some (t, k) ∧ k ≠ 0 := by
  unfold World.cell? at h
  unfold World.shape?
  split at h
  · rename_i c t fz e
    have e' : w.heap[b]? = some (.cells c t fz) := e
    rw [e']
    refine ⟨_, _, rfl, fun h0 => ?_⟩
    split at h
    · cases h
    · have := (Array.getElem?_eq_some_iff.1 h).1
      omega
  · cases h
theorem flat_cells {w : World} {b o sz n : Nat} {vals : Nat → Nat → Value} (hv : RowC w b o sz n vals) : ∀ j v, (flatV sz n vals)[j]? = some v → w.cell? ⟨b, o + j, none⟩ = some v := by
  intro j v h
  have hj : j < n * sz := by have := (List.getElem?_eq_some_iff.1 h).1; rwa [flatV_len] at this
  obtain ⟨i, f, rfl, hi, hf⟩ := flatV_get' (vals := vals) hj
  rw [flatV_get hi hf] at h
  cases h
  exact hv i f hi hf
theorem flat_mem {sz n : Nat} {vals : Nat → Nat → Value} {Q : Value → Prop} (h : ∀ i f, i < n → f < sz → Q (vals i f)) : ∀ v ∈ flatV sz n vals, Q v := by
  intro v hv
  obtain ⟨j, hj⟩ := List.getElem?_of_mem hv
  have hj' : j < n * sz := by have := (List.getElem?_eq_some_iff.1 hj).1; rwa [flatV_len] at this
  obtain ⟨i, f, rfl, hi, hf⟩ := flatV_get' (vals := vals) hj'
  rw [flatV_get hi hf] at hj
  cases hj
  exact h i f hi hf
theorem setC_drew (b : Nat) : ∀ (vs : List Value) (o : Nat) (w : World), w.drew.setCells b o vs = (w.setCells b o vs).drew
  | [], _, _ => rfl
  | v :: r, o, w => by rw [World.setCells, World.setCells, ← setC_drew b r]; rfl
theorem ins_cells2 {w : World} {b o sz n i : Nat} {vals : Nat → Nat → Value} {pv : Nat → Nat → Value} (hi : i < n) (hsp : ∀ j, j < (n + 1) * sz → (w.cell? ⟨b, o + j, none⟩).isSome = true)
    (hfront : ∀ j f, j < i → f < sz → w.cell? ⟨b, o + (j * sz + f), none⟩ = some (vals j f)) :
    ∀ j f, j < n + 1 → f < sz → ((w.setCells b (o + i * sz) (flatV sz 1 pv)).setCells b (o + (i + 1) * sz) ((flatV sz n vals).drop (i * sz))).cell? ⟨b, o + (j * sz + f), none⟩ = some (insV i vals (pv 0) j f) := by
  intro j f hj hf
  have hl1 : (flatV sz n vals).length = n * sz := flatV_len ..
  have hl2 : (flatV sz 1 pv).length = sz := by rw [flatV_len]; omega
  have hd : ((flatV sz n vals).drop (i * sz)).length = n * sz - i * sz := by rw [List.length_drop, hl1]
  have hin : i * sz + sz ≤ n * sz := by have := Nat.mul_le_mul_right sz hi; rwa [Nat.succ_mul] at this
  have hn1 : (n + 1) * sz = n * sz + sz := Nat.succ_mul ..
  have hi1 : (i + 1) * sz = i * sz + sz := Nat.succ_mul ..
  have hW : ∀ k, k < (n + 1) * sz → ((w.setCells b (o + i * sz) (flatV sz 1 pv)).cell? ⟨b, o + k, none⟩).isSome = true := by
    intro k hk
    by_cases h : i * sz ≤ k ∧ k < i * sz + sz
    · obtain ⟨q, rfl⟩ : ∃ q, k = i * sz + q := ⟨k - i * sz, by omega⟩
      have hq : q < (flatV sz 1 pv).length := by rw [hl2]; omega
      rw [← Nat.add_assoc, in_setC (v := (flatV sz 1 pv)[q]) (fun j hj => by rw [Nat.add_assoc]; exact hsp _ (by rw [hl2] at hj; omega)) (List.getElem?_eq_getElem hq)]; rfl
    · rw [out_setC (by rw [hl2]; omega)]; exact hsp k hk
  unfold insV
  by_cases h1 : j < i
  · have := mul_lt h1 hf
    rw [if_pos h1, out_setC (by omega), out_setC (by omega)]
    exact hfront j f h1 hf
  rw [if_neg h1]
  by_cases h2 : j = i
  · subst h2
    rw [if_pos rfl, out_setC (by omega), ← Nat.add_assoc]
    refine in_setC (fun k hk => by rw [Nat.add_assoc]; exact hsp _ (by rw [hl2] at hk; omega)) ?_
    have := flatV_get (sz := sz) (n := 1) (vals := pv) (i := 0) (f := f) (by omega) hf
    rwa [Nat.zero_mul, Nat.zero_add] at this
  rw [if_neg h2]
  obtain ⟨k, rfl⟩ : ∃ k, j = k + 1 := ⟨j - 1, by omega⟩
  have hk1 : (k + 1) * sz = k * sz + sz := Nat.succ_mul ..
  have hki : i * sz ≤ k * sz := Nat.mul_le_mul_right sz (by omega)
  rw [show o + ((k + 1) * sz + f) = o + (i + 1) * sz + (k * sz + f - i * sz) by omega]
  refine in_setC (fun q hq => by rw [Nat.add_assoc]; exact hW _ (by rw [hd] at hq; omega)) ?_
  rw [List.getElem?_drop, show i * sz + (k * sz + f - i * sz) = k * sz + f by omega]
  exact flatV_get (by omega) hf
theorem ins_mid {sz : Nat} {t : TypeId} {α : Type} {enc : α → List D} (hz : ∀ a, (enc a).length = sz) (hp : 0 < sz) (hfn : ∃ fn, P.funcs[f]? = some fn ∧ (fn.name == "runtime.NumGoroutine") = false ∧ fn.body.isNone = false)
    (hS : ShiftOk P f sz) (hG : GrowOk P f sz t) (x : InsX α) (hx : x.i < x.l.length) : FnOkAt P f (cIns sz enc) x := by
  intro w args R Kp Fs ha hD hcl hK hR
  have hlt := ha.lt
  obtain ⟨v1, v3, F1, F2, F3, rfl, rfl, o1, o2, o3⟩ := args_ins ha
  obtain ⟨l, i, p, hi, hl⟩ := x
  replace hx : i < l.length := hx
  replace o1 : Own w Kp F1 v1 (.row sz enc l) := o1
  replace o3 : Own w Kp F3 v3 (.row sz enc [p]) := o3
  replace hl : l.length ≤ 2000000 := hl
  replace hi : i ≤ l.length := hi
  obtain ⟨_, hm, h | ⟨b, o, c, rfl, hc, hcap, hb, vals, hv, G, g1, g2, g3, g4⟩⟩ := o1.row_inv
  · rw [h.1] at hx; simp at hx
  obtain ⟨_, _, h | ⟨vb, vo, vc, rfl, hvc, hvcap, hvb, pv, hpv, Gp, q1, q2, q3, q4⟩⟩ := o3.row_inv
  · cases h.1
  obtain ⟨fn, f1, f2, f3⟩ := hfn
  have any1 : ∀ y, F1 y → AnyF [F1, F2, F3] y := fun y h => ⟨F1, by simp, h⟩
  have any3 : ∀ y, F3 y → AnyF [F1, F2, F3] y := fun y h => ⟨F3, by simp, h⟩
  have hdis : ∀ y, F1 y → ¬ F3 y := by
    unfold DisF at hD
    simp only [List.pairwise_cons] at hD
    exact hD.1 F3 (by simp)
  have b1 : F1 b := (g4 b).2 (.inl rfl)
  have b3 : F3 vb := (q4 vb).2 (.inl rfl)
  have hne : vb ≠ b := by rintro rfl; exact hdis _ b1 b3
  have G1 : ∀ i f x, i < l.length → f < sz → G i f x → F1 x := fun i f x h1 h2 h => (g4 x).2 (.inr ⟨i, f, h1, h2, h⟩)
  have G3 : ∀ f x, f < sz → Gp 0 f x → F3 x := fun f x h2 h => (q4 x).2 (.inr ⟨0, f, by simp, h2, h⟩)
  have hKb : ∀ y, Kp y → y ≠ b := by rintro y hy rfl; exact (hcl _ (any1 _ b1)).1 (hK _ hy)
  have p1 : ∀ f, f < sz → Own w Kp (Gp 0 f) (pv 0 f) ((enc p).getD f .dead) := fun f hf => q1 0 f (by simp) hf
  have hvs : ∀ j v, (flatV sz 1 pv)[j]? = some v → w.cell? ⟨vb, vo + j, none⟩ = some v := flat_cells hpv
  have hcs : ∀ j v, (flatV sz l.length vals)[j]? = some v → w.cell? ⟨b, o + j, none⟩ = some v := flat_cells hv
  have h1c : ∀ v ∈ flatV sz l.length vals, v.oneCell' = true := flat_mem fun i f hi hf => (g1 i f hi hf).one
  have h1v : ∀ v ∈ flatV sz 1 pv, v.oneCell' = true := flat_mem fun i f hi hf => by
    obtain rfl : i = 0 := by omega
    exact (p1 f hf).one
  have hvl : (flatV sz 1 pv).length = sz := by rw [flatV_len]; omega
  by_cases hroom : l.length + 1 ≤ c
  · have hcs0 : (l.length + 1) * sz ≤ c * sz := Nat.mul_le_mul_right sz hroom
    obtain ⟨tA, kA, sA, _⟩ := shape_of (hpv 0 0 (by simp) hp)
    obtain ⟨tB, kB, sB, hkB⟩ := shape_of (hv 0 0 (by omega) hp)
    have hsp : ∀ j, j < (l.length + 1) * sz → (w.cell? ⟨b, o + j, none⟩).isSome = true := fun j hj => by
      obtain ⟨x, hx⟩ := (hcap j (by omega)).1
      rw [hx]; rfl
    refine .inl ⟨fn, f1, f2, f3, (hS b o l.length c i vb vo vc _ _ w hx hroom (by omega) hne (flatV_len ..) hvl hcs hsp (fun j hj => (hcap j (by omega)).2) hvs h1c h1v tA tB kA kB sA sB hkB ((hcl _ (any3 _ b3)).2 _) ((hcl _ (any3 _ b3)).2 _)).mono fun e w' ⟨he, hw'⟩ => ⟨_, he, ?_⟩⟩
    have hsh : Shape w w' := by rw [hw']; exact ((Shape.drew w).trans (setCells_shape b _ _ _)).trans (setCells_shape b _ _ _)
    have hblk : ∀ y, y ≠ b → w'.heap[y]? = w.heap[y]? := fun y hy => by rw [hw', setCells_blk _ _ _ hy, setCells_blk _ _ _ hy]; rfl
    have own := ins_own (w := w) (w' := w') (Kp := Kp) (p := p) (i := i) hz hi (by omega) g1 g2 p1 (fun f g hf hg hn => q2 0 f 0 g (by simp) hf (by simp) hg (.inr hn))
      (fun i f g h1 h2 h3 x h4 h5 => hdis x (G1 i f x h1 h2 h4) (G3 g x h3 h5)) (Nat.lt_of_lt_of_le hb hsh.size) hroom
      (fun j hj => ⟨hsh.cell b _ hb (hcap j hj).1, by rw [hsh.fr b _ hb]; exact (hcap j hj).2⟩)
      (by
        rw [hw']
        exact ins_cells (w := w.drew) hx hsp fun j f hj hf => hv j f (by omega) hf)
      g3 (fun f hf h => hdis b b1 (G3 f b hf h))
      (by
        rintro y (⟨i, f, h1, h2, h⟩ | ⟨f, h2, h⟩ | h)
        · exact hblk y (by rintro rfl; exact g3 i f h1 h2 h)
        · exact hblk y (by rintro rfl; exact hdis _ b1 (G3 f _ h2 h))
        · exact hblk y (hKb y h))
    have src : ∀ y, (y = b ∨ ∃ j f, j < l.length + 1 ∧ f < sz ∧ insV i G (Gp 0) j f y) → AnyF [F1, F2, F3] y := by
      rintro y (rfl | ⟨j, f, hj, hf, h⟩)
      · exact any1 _ b1
      · unfold insV at h
        split at h
        · exact any1 _ (G1 j f y (by omega) hf h)
        · split at h
          · exact any3 _ (G3 f y hf h)
          · exact any1 _ (G1 (j - 1) f y (by omega) hf h)
    exact out_one rfl rfl rfl ⟨rfl, rfl⟩ hsh (fun y hy hn => hblk y (by rintro rfl; exact hn (any1 _ b1))) own (fun y hy => .inr (src y hy)) fun y hy => (hcl y (src y hy)).2.shape hsh (hlt y (src y hy))
  · refine .inl ⟨fn, f1, f2, f3, (hG b o l.length c i vb vo vc _ _ w hx hc (by omega) hl (flatV_len ..) hvl hb hvb hcs hvs h1c h1v).mono fun e w' ⟨N, ROW, r1, r2, r3, he, hw'⟩ => ⟨_, he, ?_⟩⟩
    have hsh : Shape w w' := by rw [hw']; exact ((((Shape.alloc w _).trans (Shape.drew _)).trans (setCells_shape _ _ _ _)).trans (Shape.drew _)).trans (setCells_shape _ _ _ _)
    have hblk : ∀ y, y < w.heap.size → w'.heap[y]? = w.heap[y]? := fun y hy => by
      rw [hw', setCells_blk _ _ _ (show y ≠ w.heap.size by omega)]
      show ((w.alloc (.cells ROW t)).drew.setCells w.heap.size (i * sz) _).heap[y]? = _
      rw [setCells_blk _ _ _ (show y ≠ w.heap.size by omega)]
      exact Below.heap_alloc w _ y hy
    have hcell : ∀ j, ((w.alloc (.cells ROW t)).drew).cell? ⟨w.heap.size, j, none⟩ = ROW[j]? := fun j => World.cell?_alloc_at (w := w) ROW _ w.heap.size j rfl
    have hfz : ∀ j, w'.frozen? ⟨w.heap.size, j, none⟩ = false := fun j => by
      rw [hw', World.frozen?_setCells]
      show (((w.alloc (.cells ROW t)).drew.setCells w.heap.size (i * sz) _)).frozen? _ = false
      rw [World.frozen?_setCells]
      exact World.frozen?_alloc_at (w := w) ROW _ w.heap.size j rfl
    have hNs : (l.length + 1) * sz ≤ N * sz := Nat.mul_le_mul_right sz r1
    have hsp : ∀ j, j < N * sz → (((w.alloc (.cells ROW t)).drew).cell? ⟨w.heap.size, 0 + j, none⟩).isSome = true := fun j hj => by
      rw [Nat.zero_add, hcell, Array.getElem?_eq_getElem (by omega)]; rfl
    have hlt1 : ∀ i f, i < l.length → f < sz → ¬ G i f w.heap.size := fun i f h1 h2 h => by have := hlt _ (any1 _ (G1 i f _ h1 h2 h)); omega
    have hlt3 : ∀ f, f < sz → ¬ Gp 0 f w.heap.size := fun f h2 h => by have := hlt _ (any3 _ (G3 f _ h2 h)); omega
    have hwb : w.heap.size < w'.heap.size := by
      have h0 : (w.alloc (.cells ROW t)).heap.size = w.heap.size + 1 := by simp
      have h1 : w'.heap.size = (w.alloc (.cells ROW t)).heap.size := by
        rw [hw', setCells_size]
        show ((w.alloc (.cells ROW t)).drew.setCells w.heap.size (i * sz) _).heap.size = _
        rw [setCells_size]; rfl
      omega
    have hsh2 : Shape ((w.alloc (.cells ROW t)).drew) w' := by rw [hw']; exact ((setCells_shape _ _ _ _).trans (Shape.drew _)).trans (setCells_shape _ _ _ _)
    have own := ins_own (w := w) (w' := w') (Kp := Kp) (p := p) (i := i) (b := w.heap.size) (o := 0) (c := N) hz hi (by omega) g1 g2 p1 (fun f g hf hg hn => q2 0 f 0 g (by simp) hf (by simp) hg (.inr hn))
      (fun i f g h1 h2 h3 x h4 h5 => hdis x (G1 i f x h1 h2 h4) (G3 g x h3 h5)) hwb r1
      (fun j hj => ⟨hsh2.cell w.heap.size _ (by show w.heap.size < (w.alloc (.cells ROW t)).heap.size; simp) (by
        have := hsp j hj
        cases e : ((w.alloc (.cells ROW t)).drew).cell? ⟨w.heap.size, 0 + j, none⟩ with
        | none => rw [e] at this; cases this
        | some u => exact ⟨u, rfl⟩), hfz _⟩)
      (by
        intro j f hj hf
        rw [hw']
        have := ins_cells2 (w := (w.alloc (.cells ROW t)).drew) (b := w.heap.size) (o := 0) (vals := vals) (pv := pv) hx (fun j hj => hsp j (by omega)) (fun j f hj hf => by
          rw [Nat.zero_add, hcell]
          exact r3 _ _ (mul_lt hj hf) (flatV_get (by omega) hf)) j f hj hf
        rw [Nat.zero_add, Nat.zero_add] at this
        rw [setC_drew w.heap.size ((flatV sz l.length vals).drop (i * sz))]
        exact this)
      hlt1 hlt3
      (by
        rintro y (⟨i, f, h1, h2, h⟩ | ⟨f, h2, h⟩ | h)
        · exact hblk y (hlt _ (any1 _ (G1 i f y h1 h2 h)))
        · exact hblk y (hlt _ (any3 _ (G3 f y h2 h)))
        · exact hblk y (hR _ (hK _ h)))
    have src : ∀ y, (y = w.heap.size ∨ ∃ j f, j < l.length + 1 ∧ f < sz ∧ insV i G (Gp 0) j f y) → w.heap.size = y ∨ AnyF [F1, F2, F3] y := by
      rintro y (rfl | ⟨j, f, hj, hf, h⟩)
      · exact .inl rfl
      · right
        unfold insV at h
        split at h
        · exact any1 _ (G1 j f y (by omega) hf h)
        · split at h
          · exact any3 _ (G3 f y hf h)
          · exact any1 _ (G1 (j - 1) f y (by omega) hf h)
    refine out_one rfl rfl rfl ⟨rfl, rfl⟩ hsh (fun y hy hn => hblk y hy) own (fun y hy => (src y hy).imp (fun e => by omega) id) fun y hy => ?_
    rcases src y hy with rfl | h
    · exact hfz
    · exact (hcl y h).2.shape hsh (hlt y h)
end Go.Vm
namespace Go.Vm
open Go.Proofs Go.RowKit Go.Lib
set_option linter.unusedVariables false
set_option linter.unusedSimpArgs false
theorem isSome_setC (b : Nat) (vs : List Value) (o : Nat) (w : World) (h : ∀ j, j < vs.length → (w.cell? ⟨b, o + j, none⟩).isSome = true) (k : Nat) (hk : (w.cell? ⟨b, k, none⟩).isSome = true) : ((w.setCells b o vs).cell? ⟨b, k, none⟩).isSome = true := by
  by_cases hin : o ≤ k ∧ k < o + vs.length
  · have := World.cell?_setCells_in b vs o w h (k - o) (by omega)
    rw [show o + (k - o) = k by omega] at this
    rw [this]; rfl
  · rw [World.cell?_setCells_out b vs o w ⟨b, k, none⟩ (fun _ _ => by show k < o ∨ o + vs.length ≤ k; omega)]
    exact hk
theorem wp_copyI {P : Program} (w : World) {o : Oper} {a : Act} {K : Act → World → Prop} {Q : Exit → Act → World → Prop} (d s : Operand) (t t' : TypeId)
    (ho : o.op = .call { callee := .builtin .copy, args := #[d, s], argTypes := #[t, t'] }) (v u : Value) (hd : a.eval d = v) (hs : a.eval s = u) {v' : Value} {w' : World}
    (hr : (Builtin.copy_ #[t, t'] o.type #[v, u]).run P w = .ok v' w') (h : K (a.put o.dst v') w') : o.wp P a w K Q := by
  unfold Oper.wp execOp
  simp only [ho, resolve, invoke, builtin, Sem.run_bind, Sem.run_pure, Result.andThen_ok, List.map_toArray, List.map_cons, List.map_nil, hd, hs, hr]
  exact h
theorem wpList_copyI {P : Program} (w : World) {ops : Array Oper} {rest : List Oper} {o : Oper} {a : Act} {Q : Exit → Act → World → Prop} (hgd : o.guard = none) (d s : Operand) (t t' : TypeId)
    (ho : o.op = .call { callee := .builtin .copy, args := #[d, s], argTypes := #[t, t'] }) (v u : Value) (hd : a.eval d = v) (hs : a.eval s = u) {v' : Value} {w' : World}
    (hr : (Builtin.copy_ #[t, t'] o.type #[v, u]).run P w = .ok v' w') (h : wpList P ops Q rest (a.put o.dst v') w') : wpList P ops Q (o :: rest) a w :=
  wpList_plain hgd fun _ hK => wp_copyI w d s t t' ho v u hd hs hr (hK _ _ h)
theorem step_copyI {P : Program} {ops : Array Oper} {o : Oper} {a : Act} {w : World} {K : Act → World → Prop} {Q : Exit → Act → World → Prop} {E : Prop}
    (hg : o.guard = none) (d x : Operand) (dT sT : TypeId) (hop : o.op = Op.call { callee := Callee.builtin Builtin.copy, args := #[d, x], argTypes := #[dT, sT] })
    (v u : Value) (hd : a.eval d = v) (hx : a.eval x = u) {v' : Value} {w' : World} (hr : (Builtin.copy_ #[dT, sT] o.type #[v, u]).run P w = .ok v' w') (hK : K (a.put o.dst v') w') :
    if Region.wanted o (yielded ops a.tmps) = true then Oper.wp P o a w K Q else E := by
  have hw : Region.wanted o (yielded ops a.tmps) = true := by simp [Region.wanted, hg]
  rw [if_pos hw]
  unfold Oper.wp
  simp [execOp, hop, resolve, invoke, builtin, hd, hx, hr, Result.andThen]
  exact hK

set_option maxHeartbeats 4000000 in
set_option maxRecDepth 100000 in
theorem ins2_shift (b off n c i vb voff vc : Nat) (cs vs : List Value) (w : World) (hi : i < n) (hroom : n + 1 ≤ c) (hn63 : n + 1 ≤ 9223372036854775807) (hvb : vb ≠ b)
    (hcl : cs.length = n * 2) (hvl : vs.length = 2)
    (hcs : ∀ j v, cs[j]? = some v → w.cell? ⟨b, off + j, none⟩ = some v) (hsp : ∀ j, j < (n + 1) * 2 → (w.cell? ⟨b, off + j, none⟩).isSome = true) (hfz : ∀ j, j < (n + 1) * 2 → w.frozen? ⟨b, off + j, none⟩ = false)
    (hvs : ∀ j v, vs[j]? = some v → w.cell? ⟨vb, voff + j, none⟩ = some v) (h1c : ∀ v ∈ cs, v.oneCell' = true) (h1v : ∀ v ∈ vs, v.oneCell' = true)
    (tA tB : TypeId) (kA kB : Nat) (hsa : w.shape? vb = some (tA, kA)) (hsb : w.shape? b = some (tB, kB)) (hkB : kB ≠ 0) (hfa : w.frozen? ⟨vb, voff, none⟩ = false) (hfe : w.frozen? ⟨vb, kA, none⟩ = false) :
    Calls Try.prog 98 #[.slice (some ⟨b, off, none⟩) n c, .int .i64 i, .slice (some ⟨vb, voff, none⟩) 1 vc] w fun e w' =>
      e = .returned (.slice (some ⟨b, off, none⟩) (n + 1) c) ∧ w' = (w.drew.setCells b (off + (i + 1) * 2) (cs.drop (i * 2))).setCells b (off + i * 2) vs := by
  have t37 := Try.underlying37
  have u37 := run_underlying (P := Try.prog) t37
  have t3 := Try.underlying3
  have u3 := run_underlying (P := Try.prog) t3
  have hsz : (Try.prog.info? 57).map (·.size) = some 2 := by kernel_rfl
  have z57 : ∀ w, (Go.sizeOf 57).run Try.prog w = .ok 2 w := fun w => by
    cases hq : Try.prog.info? 57 with
    | none => rw [hq] at hsz; cases hsz
    | some i0 =>
      have hs0 : i0.size = 2 := by simpa [hq] using hsz
      simp [Go.sizeOf, typeInfo, hq, hs0]
  have hz2 : ¬ ((i : Int) = (n : Int)) := by omega
  have hov : ∀ lb cb, (callFunc 116 #[.slice (some ⟨vb, voff, none⟩) 1 vc, .slice (some ⟨b, off + (i + 1) * 2, none⟩) lb cb]).run Try.prog w = .ok (.value (.bool false)) w := fun lb cb => by
    rw [run_callFunc_extern (fn := Try.f116) (by kernel_rfl) (by kernel_rfl) (by kernel_rfl) (by kernel_rfl) (e := Extern.SlicesOverlaps.overlaps #[37, 37] #[4]) (by kernel_rfl),
      Lib.run_overlaps_apart w 37 4 57 t37 2 z57 ⟨vb, voff, none⟩ ⟨b, off + (i + 1) * 2, none⟩ 1 vc lb cb hvb tA tB kA kB hsa hsb hkB hfa hfe]
    rfl
  have hdl : (cs.drop (i * 2)).length = (n - i) * 2 := by rw [List.length_drop, hcl, Nat.sub_mul]
  have hw1 : IntKind.i64.wrap ((i : Int) + (1 : Int)) = (i : Int) + (1 : Int) := by rw [IntKind.wrap_i64]; omega
  have hw2 : IntKind.i64.wrap ((n : Int) + (1 : Int)) = (n : Int) + (1 : Int) := by rw [IntKind.wrap_i64]; omega
  have hb1 : (0 : Int) ≤ (i : Int) + (1 : Int) := by omega
  have hin : i ≤ n := by omega
  have htn : ((i : Int) + (1 : Int)).toNat = i + 1 := by omega
  have hb2 : ¬ (c = i + 1) := by omega
  have hb3 : (i : Int) ≤ (n : Int) + (1 : Int) := by omega
  have hb4 : ¬ (c = i) := by omega
  have hcp1 : ∀ ty dc sc, (Builtin.copy_ #[37, 37] ty #[.slice (some ⟨b, off + (i + 1) * 2, none⟩) (n - i) dc, .slice (some ⟨b, off + i * 2, none⟩) (n + 1 - i) sc]).run Try.prog w.drew = .ok (goInt (n - i : Nat)) (w.drew.setCells b (off + (i + 1) * 2) (cs.drop (i * 2))) := fun ty dc sc =>
    run_copyN w.drew _ _ ty 57 b (off + (i + 1) * 2) (n - i) dc ⟨b, off + i * 2, none⟩ (n + 1 - i) sc 2 (n - i) (cs.drop (i * 2)) t37 hsz (by simp only [Nat.min_def]; split <;> omega) hdl
      (fun j v hj => by rw [Addr.add_lit, Nat.add_assoc]; exact hcs (i * 2 + j) v (by rwa [List.getElem?_drop] at hj))
      (fun j hj => by rw [Nat.add_assoc]; exact hsp _ (by rw [hdl] at hj; omega)) (fun j hj => by rw [Nat.add_assoc]; exact hfz _ (by rw [hdl] at hj; omega)) (fun v hv => h1c v (List.mem_of_mem_drop hv))
  obtain ⟨W1, hW1⟩ : ∃ W1, W1 = w.drew.setCells b (off + (i + 1) * 2) (cs.drop (i * 2)) := ⟨_, rfl⟩
  have hsp1 : ∀ k, k < (n + 1) * 2 → (W1.cell? ⟨b, off + k, none⟩).isSome = true := fun k hk => by
    rw [hW1]
    exact isSome_setC b _ _ _ (fun j hj => by rw [Nat.add_assoc]; exact hsp _ (by rw [hdl] at hj; omega)) _ (hsp k hk)
  have hcp2 : ∀ (W : World), (∀ x, W.cell? x = W1.cell? x) → (∀ x, W.frozen? x = W1.frozen? x) → ∀ ty dc, (Builtin.copy_ #[37, 37] ty #[.slice (some ⟨b, off + i * 2, none⟩) (n + 1 - i) dc, .slice (some ⟨vb, voff, none⟩) 1 vc]).run Try.prog W = .ok (goInt (1 : Nat)) (W.setCells b (off + i * 2) vs) := fun W hWc hWf ty dc =>
    run_copyN W _ _ ty 57 b (off + i * 2) (n + 1 - i) dc ⟨vb, voff, none⟩ 1 vc 2 1 vs t37 hsz (by simp only [Nat.min_def]; split <;> omega) (by rw [hvl])
      (fun j v hj => by
        rw [Addr.add_lit, hWc, hW1, World.cell?_setCells_out b _ _ _ _ (fun h _ => absurd h hvb)]
        exact hvs j v hj)
      (fun j hj => by rw [hWc, Nat.add_assoc]; exact hsp1 _ (by rw [hvl] at hj; omega)) (fun j hj => by rw [hWf, hW1, World.frozen?_setCells, Nat.add_assoc]; exact hfz _ (by rw [hvl] at hj; omega)) h1v
  rw [← hW1] at hcp1
  have mixed : Try.prog.follows Departure.mixedOrders = true := by kernel_rfl
  go_enter Try.func98, Try.ntmps98
  go_wp2_with (simp only [hov])
  go_region_law_o (refine step_copyI rfl _ _ 37 37 rfl _ _ (by simp [Act.eval, Act.put]) (by simp [Act.eval, Act.put]) (hcp1 _ _ _) ?_)
  go_wp2_with (at_builtin; refine wpList_copyI _ rfl _ _ 37 37 rfl _ _ rfl rfl (hcp2 _ (fun _ => rfl) (fun _ => rfl) _ _) ?_)
  go_ret
  first | exact ⟨rfl, rfl⟩ | exact ⟨rfl, by rw [hW1]⟩
end Go.Vm
namespace Go.Vm
open Go.Proofs Go.RowKit Go.Lib
set_option linter.unusedVariables false
set_option linter.unusedSimpArgs false
set_option maxHeartbeats 4000000 in
set_option maxRecDepth 100000 in
theorem ins2_grow (b off n c i vb voff vc : Nat) (cs vs : List Value) (w : World) (hi : i < n) (hnc : n ≤ c) (hroom : c < n + 1) (hbig : (n + 1) * 32 ≤ 140737488355328)
    (hcl : cs.length = n * 2) (hvl : vs.length = 2) (hbw : b < w.heap.size) (hvw : vb < w.heap.size)
    (hcs : ∀ j v, cs[j]? = some v → w.cell? ⟨b, off + j, none⟩ = some v)
    (hvs : ∀ j v, vs[j]? = some v → w.cell? ⟨vb, voff + j, none⟩ = some v) (h1c : ∀ v ∈ cs, v.oneCell' = true) (h1v : ∀ v ∈ vs, v.oneCell' = true) :
    Calls Try.prog 98 #[.slice (some ⟨b, off, none⟩) n c, .int .i64 i, .slice (some ⟨vb, voff, none⟩) 1 vc] w fun e w' =>
      ∃ (G : Nat) (ROW : Array Value), n + 1 ≤ G ∧ ROW.size = G * 2 ∧ (∀ j v, j < i * 2 → cs[j]? = some v → ROW[j]? = some v) ∧ e = .returned (.slice (some ⟨w.heap.size, 0, none⟩) (n + 1) G) ∧
      w' = (((w.alloc (.cells ROW 57)).drew.setCells w.heap.size (i * 2) vs).drew).setCells w.heap.size ((i + 1) * 2) (cs.drop (i * 2)) := by
  have t37 := Try.underlying37
  have u37 := run_underlying (P := Try.prog) t37
  have t3 := Try.underlying3
  have u3 := run_underlying (P := Try.prog) t3
  have hsz : (Try.prog.info? 57).map (·.size) = some 2 := by kernel_rfl
  have hby : (Try.prog.info? 57).map (·.bytes) = some 32 := by kernel_rfl
  have hze : (Try.prog.info? 57).bind (·.zero) = some (.agg #[.string ⟨#[]⟩, .string ⟨#[]⟩]) := by kernel_rfl
  obtain ⟨i0, hi0, hzs, hzb, hz0⟩ : ∃ i0, Try.prog.info? 57 = some i0 ∧ i0.size = 2 ∧ i0.bytes = 32 ∧ i0.zero = some (.agg #[.string ⟨#[]⟩, .string ⟨#[]⟩]) := by
    cases hq : Try.prog.info? 57 with
    | none => rw [hq] at hsz; cases hsz
    | some i0 => rw [hq] at hsz hby hze; exact ⟨i0, rfl, by simpa using hsz, by simpa using hby, by simpa using hze⟩
  have hz2 : ¬ ((i : Int) = (n : Int)) := by omega
  have hz3 : (c : Int) < (n : Int) + (1 : Int) := by omega
  have hkk : (n : Int) + (1 : Int) - (i : Int) = ((n + 1 - i : Nat) : Int) := by omega
  have hik : i + (n + 1 - i) = n + 1 := by omega
  have hold : (Builtin.firstCells i0.size i (.slice (some ⟨b, off, none⟩) i c)).run Try.prog w.drew = .ok (cs.take (i * 2)).toArray w.drew := by
    rw [hzs]
    exact run_firstCells_some w.drew 2 i ⟨b, off, none⟩ i c (cs.take (i * 2)) (by rw [List.length_take]; omega) (fun j v hj => by
      rw [Addr.add_lit]
      rw [List.getElem?_take] at hj
      split at hj
      · exact hcs j v hj
      · cases hj)
  have hrz : ∀ ty, (Builtin.append_ #[37, 3] ty #[.slice (some ⟨b, off, none⟩) i c, .int .i64 ((n : Int) + (1 : Int) - (i : Int))]).run Try.prog w =
      .ok (.slice (some ⟨w.heap.size, 0, none⟩) (n + 1) (grownCap w (n + 1) c 57)) (w.drew.alloc (.cells ((cs.take (i * 2)).toArray ++ Builtin.zeroCells (Value.agg #[.string ⟨#[]⟩, .string ⟨#[]⟩]).cells (n + 1 - i) ++ Builtin.zeroCells (Value.agg #[.string ⟨#[]⟩, .string ⟨#[]⟩]).cells (grownCap w (n + 1) c 57 - (n + 1))) 57)) := fun ty => by
    have h := Lib.run_append_grow_zeros w 37 3 ty 57 i0 _ .i64 .i64 t37 t3 hi0 hz0 (some ⟨b, off, none⟩) i c (cs.take (i * 2)) hold (n + 1 - i) (by omega) (by omega) (by omega) (by omega) (by rw [hzb]; omega) (by rw [hzb, hik]; exact growslice_fits hroom hbig)
    rw [hik] at h
    rw [hkk]
    exact h
  obtain ⟨G, hG⟩ : ∃ G, G = grownCap w (n + 1) c 57 := ⟨_, rfl⟩
  obtain ⟨ROW, hROW⟩ : ∃ ROW : Array Value, ROW = (cs.take (i * 2)).toArray ++ Builtin.zeroCells (Value.agg #[.string ⟨#[]⟩, .string ⟨#[]⟩]).cells (n + 1 - i) ++ Builtin.zeroCells (Value.agg #[.string ⟨#[]⟩, .string ⟨#[]⟩]).cells (G - (n + 1)) := ⟨_, rfl⟩
  rw [← hG] at hrz
  rw [← hROW] at hrz
  have hGn : n + 1 ≤ G := by rw [hG]; exact grownCap_ge w _ _ _
  have hRl : ROW.size = G * 2 := by
    rw [hROW]
    simp [Builtin.zeroCells, Value.cells]
    omega
  have hRc : ∀ j v, j < i * 2 → cs[j]? = some v → ROW[j]? = some v := by
    intro j v hj hv
    have hjl : j < cs.length := (List.getElem?_eq_some_iff.1 hv).1
    rw [hROW, Array.getElem?_append_left (by simp; omega), Array.getElem?_append_left (by simp; omega), List.getElem?_toArray, List.getElem?_take, if_pos hj]
    exact hv
  obtain ⟨W1, hW1⟩ : ∃ W1, W1 = w.drew.alloc (.cells ROW 57) := ⟨_, rfl⟩
  rw [← hW1] at hrz
  have hN : ∀ j, j < (n + 1) * 2 → (W1.cell? ⟨w.heap.size, j, none⟩).isSome = true := fun j hj => by
    rw [hW1, World.cell?_alloc_at (w := w.drew) ROW _ w.heap.size j rfl, Array.getElem?_eq_getElem (by omega)]; rfl
  have hNf : ∀ j, W1.frozen? ⟨w.heap.size, j, none⟩ = false := fun j => by rw [hW1]; exact World.frozen?_alloc_at (w := w.drew) ROW _ w.heap.size j rfl
  have hOb : ∀ j v, w.cell? ⟨b, j, none⟩ = some v → W1.cell? ⟨b, j, none⟩ = some v := fun j v h => by rw [hW1, World.cell?_alloc_past (w := w.drew) _ b j hbw]; exact h
  have hOv : ∀ j v, w.cell? ⟨vb, j, none⟩ = some v → W1.cell? ⟨vb, j, none⟩ = some v := fun j v h => by rw [hW1, World.cell?_alloc_past (w := w.drew) _ vb j hvw]; exact h
  have hcpA : ∀ (W : World), (∀ x, W.cell? x = W1.cell? x) → (∀ x, W.frozen? x = W1.frozen? x) → ∀ ty dc, (Builtin.copy_ #[37, 37] ty #[.slice (some ⟨w.heap.size, i * 2, none⟩) (n + 1 - i) dc, .slice (some ⟨vb, voff, none⟩) 1 vc]).run Try.prog W = .ok (goInt (1 : Nat)) (W.setCells w.heap.size (i * 2) vs) := fun W hWc hWf ty dc =>
    run_copyN W _ _ ty 57 w.heap.size (i * 2) (n + 1 - i) dc ⟨vb, voff, none⟩ 1 vc 2 1 vs t37 hsz (by simp only [Nat.min_def]; split <;> omega) (by rw [hvl])
      (fun j v hj => by rw [Addr.add_lit, hWc]; exact hOv _ v (hvs j v hj))
      (fun j hj => by rw [hWc]; exact hN _ (by rw [hvl] at hj; omega)) (fun j hj => by rw [hWf]; exact hNf _) h1v
  have hG63 : G ≤ 9223372036854775807 := by
    have := grownCap_le_maxLen w (n + 1) c 57 (by unfold maxLen; omega)
    rw [← hG] at this
    unfold maxLen at this
    omega
  have hGi : ¬ (G = i) := by omega
  have hGim : ¬ (G = i + 1) := by omega
  have hci : ¬ (c = i) := by omega
  have hbN : b ≠ w.heap.size := by omega
  have hdl : (cs.drop (i * 2)).length = (n - i) * 2 := by rw [List.length_drop, hcl, Nat.sub_mul]
  have hcpB : ∀ (W : World), (∀ x, W.cell? x = (W1.setCells w.heap.size (i * 2) vs).cell? x) → (∀ x, W.frozen? x = (W1.setCells w.heap.size (i * 2) vs).frozen? x) → ∀ ty dc sc, (Builtin.copy_ #[37, 37] ty #[.slice (some ⟨w.heap.size, (i + 1) * 2, none⟩) (n - i) dc, .slice (some ⟨b, off + i * 2, none⟩) (n - i) sc]).run Try.prog W = .ok (goInt (n - i : Nat)) (W.setCells w.heap.size ((i + 1) * 2) (cs.drop (i * 2))) := fun W hWc hWf ty dc sc =>
    run_copyN W _ _ ty 57 w.heap.size ((i + 1) * 2) (n - i) dc ⟨b, off + i * 2, none⟩ (n - i) sc 2 (n - i) (cs.drop (i * 2)) t37 hsz (by simp only [Nat.min_def]; split <;> omega) hdl
      (fun j v hj => by
        rw [Addr.add_lit, hWc, World.cell?_setCells_out _ _ _ _ _ (fun h _ => absurd h hbN), Nat.add_assoc]
        exact hOb _ v (hcs (i * 2 + j) v (by rwa [List.getElem?_drop] at hj)))
      (fun j hj => by rw [hWc]; exact isSome_setC _ _ _ _ (fun t ht => hN _ (by rw [hvl] at ht; omega)) _ (hN _ (by rw [hdl] at hj; omega)))
      (fun j hj => by rw [hWf, World.frozen?_setCells]; exact hNf _) (fun v hv => h1c v (List.mem_of_mem_drop hv))
  subst hW1
  have hE1 : ∀ x, ((w.alloc (.cells ROW 57)).drew).cell? x = (w.drew.alloc (.cells ROW 57)).cell? x := fun x => rfl
  have hE2 : ∀ x, ((w.alloc (.cells ROW 57)).drew).frozen? x = (w.drew.alloc (.cells ROW 57)).frozen? x := fun x => rfl
  have hF1 : ∀ x, (((w.alloc (.cells ROW 57)).drew.setCells w.heap.size (i * 2) vs).drew).cell? x = ((w.drew.alloc (.cells ROW 57)).setCells w.heap.size (i * 2) vs).cell? x := fun x => rfl
  have hF2 : ∀ x, (((w.alloc (.cells ROW 57)).drew.setCells w.heap.size (i * 2) vs).drew).frozen? x = ((w.drew.alloc (.cells ROW 57)).setCells w.heap.size (i * 2) vs).frozen? x := fun x => rfl
  have hw1 : IntKind.i64.wrap ((i : Int) + (1 : Int)) = (i : Int) + (1 : Int) := by rw [IntKind.wrap_i64]; omega
  have hb1 : (0 : Int) ≤ (i : Int) + (1 : Int) := by omega
  have hin : i ≤ n := by omega
  have htn : ((i : Int) + (1 : Int)).toNat = i + 1 := by omega
  have hb3 : (i : Int) ≤ (n : Int) := by omega
  have mixed : Try.prog.follows Departure.mixedOrders = true := by kernel_rfl
  clear hkk hik hold hROW hG
  go_enter Try.func98, Try.ntmps98
  go_wp2_with (first
    | (at_builtin; refine Lib.wpList_append_run _ rfl _ _ _ _ rfl _ _ rfl rfl _ _ (hrz _) ?_)
    | (at_builtin; refine wpList_copyI _ rfl _ _ 37 37 rfl _ _ rfl rfl (hcpA _ hE1 hE2 _ _) ?_)
    | (at_builtin; refine wpList_copyI _ rfl _ _ 37 37 rfl _ _ rfl rfl (hcpB _ (fun _ => rfl) (fun _ => rfl) _ _ _) ?_))
  go_region_law_o (refine step_copyI rfl _ _ 37 37 rfl (.slice (some ⟨w.heap.size, (i + 1) * 2, none⟩) (n - i) (G - (i + 1))) (.slice (some ⟨b, off + i * 2, none⟩) (n - i) (c - i)) (by simp [Act.eval, Act.put]) (by simp [Act.eval, Act.put]) (hcpB _ hF1 hF2 3 (G - (i + 1)) (c - i)) ?_)
  go_wp2
  go_ret
  exact ⟨G, ROW, hGn, hRl, hRc, rfl, rfl⟩
end Go.Vm
namespace Go.Vm
open Go.Proofs Go.RowKit
set_option maxRecDepth 100000
set_option linter.unusedVariables false
set_option linter.unusedSimpArgs false

structure InsE (α : Type) where
  l : List α
  p : α
  hl : l.length ≤ 2000000
def cInsE {α : Type} (sz : Nat) (enc : α → List D) : Con := { X := InsE α, params := [(.take, false), (.rd, false), (.take, false)], res := [false], resOwn := true, ins := fun x => [[.row sz enc x.l], [.lf (.int .i64 x.l.length)], [.row sz enc [x.p]]], post := fun x outs r => outs = [] ∧ r = [[.row sz enc (x.l ++ [x.p])]] }
theorem ev_insPairE : ∀ x, evFnX tab [] (cInsE 2 RngX.ds) Try.f98 (body Try.f98) x := by
  rintro ⟨l, p, hl⟩
  replace hl : l.length ≤ 2000000 := hl
  conv => whnf
  refine ⟨Int.natCast_nonneg _, Int.le_refl _, Int.le_refl _, ?_⟩
  conv => whnf
  intro _
  conv => whnf
  intro _
  conv => whnf
  refine br2 (fun h1 => ?_) (fun h1 => ?_)
  · conv => whnf
    refine ⟨fun _ => rfl, [p], rfl, ?_, ?_⟩
    · show l.length + 1 ≤ 4294967296; omega
    conv => whnf
    exact ⟨⟨rfl, rfl⟩⟩
  · exfalso
    replace h1 : ((l.length : Int) == (l.length : Int)) = false := h1
    simp at h1
theorem insPairE_ok : FnOk Try.prog 98 (cInsE 2 RngX.ds) := fnOk_of fun x => fnX_at tab_ok (SOk.nil) mixed (fn := Try.f98) (code := body Try.f98) ⟨Try.func98, rfl, by kernel_rfl, by kernel_rfl, by kernel_rfl, by kernel_rfl⟩ (ev_insPairE x)
theorem insAt_end {α : Type} (l : List α) (p : α) : insAt l l.length p = l ++ [p] := by unfold insAt; simp
theorem ins_full {P : Program} {f : FuncId} {sz : Nat} {α : Type} {enc : α → List D} (hE : FnOk P f (cInsE sz enc)) (hM : ∀ x : InsX α, x.i < x.l.length → FnOkAt P f (cIns sz enc) x) : FnOk P f (cIns sz enc) := by
  refine fnOk_of fun x => ?_
  by_cases hx : x.i < x.l.length
  · exact hM x hx
  · obtain ⟨l, i, p, hi, hl⟩ := x
    obtain rfl : i = l.length := by
      have : ¬ i < l.length := hx
      omega
    intro w args R Kp Fs ha hD hcl hK hR
    have conv : ∀ v w', (∃ outs res N rs Hs Os, Out (cInsE sz enc) ⟨l, p, hl⟩ w args Kp Fs v w' outs res N rs Hs Os) → ∃ outs res N rs Hs Os, Out (cIns sz enc) ⟨l, l.length, p, hi, hl⟩ w args Kp Fs v w' outs res N rs Hs Os := by
      rintro v w' ⟨outs, res, N, rs, Hs, Os, o⟩
      refine ⟨outs, res, N, rs, Hs, Os, ⟨?_, o.shape, o.frame, o.new, o.res, o.ret, o.outs, o.dis, o.src, o.cl⟩⟩
      obtain ⟨h1, h2⟩ := o.post
      refine ⟨h1, h2.trans ?_⟩
      show [[D.row sz enc (l ++ [p])]] = [[D.row sz enc (insAt l l.length p)]]
      rw [insAt_end]
    rcases hE ⟨l, p, hl⟩ w args R Kp Fs ha hD hcl hK hR with ⟨fn, h1, h2, h3, h4⟩ | ⟨v, w', h1, h2⟩
    · exact .inl ⟨fn, h1, h2, h3, h4.mono fun e w' ⟨v, e1, ho⟩ => ⟨v, e1, conv v w' ho⟩⟩
    · exact .inr ⟨v, w', h1, conv v w' h2⟩
theorem shift2 : ShiftOk Try.prog 98 2 := fun b off n c i vb voff vc cs vs w h1 h2 h3 h4 h5 h6 h7 h8 h9 h10 h11 h12 tA tB kA kB h13 h14 h15 h16 h17 => ins2_shift b off n c i vb voff vc cs vs w h1 h2 h3 h4 h5 h6 h7 h8 h9 h10 h11 h12 tA tB kA kB h13 h14 h15 h16 h17
theorem grow2 : GrowOk Try.prog 98 2 57 := fun b off n c i vb voff vc cs vs w h1 h2 h3 h4 h5 h6 h7 h8 h9 h10 h11 h12 => ins2_grow b off n c i vb voff vc cs vs w h1 h2 h3 (by omega) h5 h6 h7 h8 h9 h10 h11 h12
theorem insPair_full : FnOk Try.prog 98 (cIns 2 RngX.ds) :=
  ins_full insPairE_ok fun x hx => ins_mid (sz := 2) (enc := RngX.ds) (fun _ => rfl) (by decide) ⟨Try.f98, by kernel_rfl, by kernel_rfl, by kernel_rfl⟩ shift2 grow2 x hx
theorem insPair_ok : FnOk Try.prog 98 (cIns 2 RngX.ds) := insPair_full
end Go.Vm
namespace Go.Vm
open Go.Proofs Go.RowKit Go.Lib
set_option linter.unusedVariables false
set_option linter.unusedSimpArgs false
set_option maxHeartbeats 4000000 in
set_option maxRecDepth 100000 in
theorem ins1_shift (b off n c i vb voff vc : Nat) (cs vs : List Value) (w : World) (hi : i < n) (hroom : n + 1 ≤ c) (hn63 : n + 1 ≤ 9223372036854775807) (hvb : vb ≠ b)
    (hcl : cs.length = n) (hvl : vs.length = 1)
    (hcs : ∀ j v, cs[j]? = some v → w.cell? ⟨b, off + j, none⟩ = some v) (hsp : ∀ j, j < (n + 1) → (w.cell? ⟨b, off + j, none⟩).isSome = true) (hfz : ∀ j, j < (n + 1) → w.frozen? ⟨b, off + j, none⟩ = false)
    (hvs : ∀ j v, vs[j]? = some v → w.cell? ⟨vb, voff + j, none⟩ = some v) (h1c : ∀ v ∈ cs, v.oneCell' = true) (h1v : ∀ v ∈ vs, v.oneCell' = true)
    (tA tB : TypeId) (kA kB : Nat) (hsa : w.shape? vb = some (tA, kA)) (hsb : w.shape? b = some (tB, kB)) (hkB : kB ≠ 0) (hfa : w.frozen? ⟨vb, voff, none⟩ = false) (hfe : w.frozen? ⟨vb, kA, none⟩ = false) :
    Calls Try.prog 97 #[.slice (some ⟨b, off, none⟩) n c, .int .i64 i, .slice (some ⟨vb, voff, none⟩) 1 vc] w fun e w' =>
      e = .returned (.slice (some ⟨b, off, none⟩) (n + 1) c) ∧ w' = (w.drew.setCells b (off + (i + 1)) (cs.drop (i))).setCells b (off + i) vs := by
  have t105 := Try.underlying105
  have u105 := run_underlying (P := Try.prog) t105
  have t3 := Try.underlying3
  have u3 := run_underlying (P := Try.prog) t3
  have hsz : (Try.prog.info? 61).map (·.size) = some 1 := by kernel_rfl
  have z61 : ∀ w, (Go.sizeOf 61).run Try.prog w = .ok 1 w := fun w => by
    cases hq : Try.prog.info? 61 with
    | none => rw [hq] at hsz; cases hsz
    | some i0 =>
      have hs0 : i0.size = 1 := by simpa [hq] using hsz
      simp [Go.sizeOf, typeInfo, hq, hs0]
  have hz2 : ¬ ((i : Int) = (n : Int)) := by omega
  have hov : ∀ lb cb, (callFunc 114 #[.slice (some ⟨vb, voff, none⟩) 1 vc, .slice (some ⟨b, off + (i + 1), none⟩) lb cb]).run Try.prog w = .ok (.value (.bool false)) w := fun lb cb => by
    rw [run_callFunc_extern (fn := Try.f114) (by kernel_rfl) (by kernel_rfl) (by kernel_rfl) (by kernel_rfl) (e := Extern.SlicesOverlaps.overlaps #[105, 105] #[4]) (by kernel_rfl),
      Lib.run_overlaps_apart w 105 4 61 t105 1 z61 ⟨vb, voff, none⟩ ⟨b, off + (i + 1), none⟩ 1 vc lb cb hvb tA tB kA kB hsa hsb hkB hfa hfe]
    rfl
  have hdl : (cs.drop (i)).length = (n - i) := by rw [List.length_drop, hcl]
  have hw1 : IntKind.i64.wrap ((i : Int) + (1 : Int)) = (i : Int) + (1 : Int) := by rw [IntKind.wrap_i64]; omega
  have hw2 : IntKind.i64.wrap ((n : Int) + (1 : Int)) = (n : Int) + (1 : Int) := by rw [IntKind.wrap_i64]; omega
  have hb1 : (0 : Int) ≤ (i : Int) + (1 : Int) := by omega
  have hin : i ≤ n := by omega
  have htn : ((i : Int) + (1 : Int)).toNat = i + 1 := by omega
  have hb2 : ¬ (c = i + 1) := by omega
  have hb3 : (i : Int) ≤ (n : Int) + (1 : Int) := by omega
  have hb4 : ¬ (c = i) := by omega
  have hcp1 : ∀ ty dc sc, (Builtin.copy_ #[105, 105] ty #[.slice (some ⟨b, off + (i + 1), none⟩) (n - i) dc, .slice (some ⟨b, off + i, none⟩) (n + 1 - i) sc]).run Try.prog w.drew = .ok (goInt (n - i : Nat)) (w.drew.setCells b (off + (i + 1)) (cs.drop (i))) := fun ty dc sc =>
    run_copyN w.drew _ _ ty 61 b (off + (i + 1)) (n - i) dc ⟨b, off + i, none⟩ (n + 1 - i) sc 1 (n - i) (cs.drop (i)) t105 hsz (by simp only [Nat.min_def]; split <;> omega) (by rw [hdl, Nat.mul_one])
      (fun j v hj => by rw [Addr.add_lit, Nat.add_assoc]; exact hcs (i + j) v (by rwa [List.getElem?_drop] at hj))
      (fun j hj => by rw [Nat.add_assoc]; exact hsp _ (by rw [hdl] at hj; omega)) (fun j hj => by rw [Nat.add_assoc]; exact hfz _ (by rw [hdl] at hj; omega)) (fun v hv => h1c v (List.mem_of_mem_drop hv))
  obtain ⟨W1, hW1⟩ : ∃ W1, W1 = w.drew.setCells b (off + (i + 1)) (cs.drop (i)) := ⟨_, rfl⟩
  have hsp1 : ∀ k, k < (n + 1) → (W1.cell? ⟨b, off + k, none⟩).isSome = true := fun k hk => by
    rw [hW1]
    exact isSome_setC b _ _ _ (fun j hj => by rw [Nat.add_assoc]; exact hsp _ (by rw [hdl] at hj; omega)) _ (hsp k hk)
  have hcp2 : ∀ (W : World), (∀ x, W.cell? x = W1.cell? x) → (∀ x, W.frozen? x = W1.frozen? x) → ∀ ty dc, (Builtin.copy_ #[105, 105] ty #[.slice (some ⟨b, off + i, none⟩) (n + 1 - i) dc, .slice (some ⟨vb, voff, none⟩) 1 vc]).run Try.prog W = .ok (goInt (1 : Nat)) (W.setCells b (off + i) vs) := fun W hWc hWf ty dc =>
    run_copyN W _ _ ty 61 b (off + i) (n + 1 - i) dc ⟨vb, voff, none⟩ 1 vc 1 1 vs t105 hsz (by simp only [Nat.min_def]; split <;> omega) (by rw [hvl])
      (fun j v hj => by
        rw [Addr.add_lit, hWc, hW1, World.cell?_setCells_out b _ _ _ _ (fun h _ => absurd h hvb)]
        exact hvs j v hj)
      (fun j hj => by rw [hWc, Nat.add_assoc]; exact hsp1 _ (by rw [hvl] at hj; omega)) (fun j hj => by rw [hWf, hW1, World.frozen?_setCells, Nat.add_assoc]; exact hfz _ (by rw [hvl] at hj; omega)) h1v
  rw [← hW1] at hcp1
  have mixed : Try.prog.follows Departure.mixedOrders = true := by kernel_rfl
  go_enter Try.func97, Try.ntmps97
  go_wp2_with (simp only [hov])
  go_region_law_o (refine step_copyI rfl _ _ 105 105 rfl _ _ (by simp [Act.eval, Act.put]) (by simp [Act.eval, Act.put]) (hcp1 _ _ _) ?_)
  go_wp2_with (at_builtin; refine wpList_copyI _ rfl _ _ 105 105 rfl _ _ rfl rfl (hcp2 _ (fun _ => rfl) (fun _ => rfl) _ _) ?_)
  go_ret
  first | exact ⟨rfl, rfl⟩ | exact ⟨rfl, by rw [hW1]⟩
end Go.Vm
namespace Go.Vm
open Go.Proofs Go.RowKit Go.Lib
set_option linter.unusedVariables false
set_option linter.unusedSimpArgs false
set_option maxHeartbeats 4000000 in
set_option maxRecDepth 100000 in
theorem ins1_grow (b off n c i vb voff vc : Nat) (cs vs : List Value) (w : World) (hi : i < n) (hnc : n ≤ c) (hroom : c < n + 1) (hbig : (n + 1) * 8 ≤ 140737488355328)
    (hcl : cs.length = n) (hvl : vs.length = 1) (hbw : b < w.heap.size) (hvw : vb < w.heap.size)
    (hcs : ∀ j v, cs[j]? = some v → w.cell? ⟨b, off + j, none⟩ = some v)
    (hvs : ∀ j v, vs[j]? = some v → w.cell? ⟨vb, voff + j, none⟩ = some v) (h1c : ∀ v ∈ cs, v.oneCell' = true) (h1v : ∀ v ∈ vs, v.oneCell' = true) :
    Calls Try.prog 97 #[.slice (some ⟨b, off, none⟩) n c, .int .i64 i, .slice (some ⟨vb, voff, none⟩) 1 vc] w fun e w' =>
      ∃ (G : Nat) (ROW : Array Value), n + 1 ≤ G ∧ ROW.size = G ∧ (∀ j v, j < i → cs[j]? = some v → ROW[j]? = some v) ∧ e = .returned (.slice (some ⟨w.heap.size, 0, none⟩) (n + 1) G) ∧
      w' = (((w.alloc (.cells ROW 61)).drew.setCells w.heap.size (i) vs).drew).setCells w.heap.size ((i + 1)) (cs.drop (i)) := by
  have t105 := Try.underlying105
  have u105 := run_underlying (P := Try.prog) t105
  have t3 := Try.underlying3
  have u3 := run_underlying (P := Try.prog) t3
  have hsz : (Try.prog.info? 61).map (·.size) = some 1 := by kernel_rfl
  have hby : (Try.prog.info? 61).map (·.bytes) = some 8 := by kernel_rfl
  have hze : (Try.prog.info? 61).bind (·.zero) = some (.pointer none) := by kernel_rfl
  obtain ⟨i0, hi0, hzs, hzb, hz0⟩ : ∃ i0, Try.prog.info? 61 = some i0 ∧ i0.size = 1 ∧ i0.bytes = 8 ∧ i0.zero = some (.pointer none) := by
    cases hq : Try.prog.info? 61 with
    | none => rw [hq] at hsz; cases hsz
    | some i0 => rw [hq] at hsz hby hze; exact ⟨i0, rfl, by simpa using hsz, by simpa using hby, by simpa using hze⟩
  have hz2 : ¬ ((i : Int) = (n : Int)) := by omega
  have hz3 : (c : Int) < (n : Int) + (1 : Int) := by omega
  have hkk : (n : Int) + (1 : Int) - (i : Int) = ((n + 1 - i : Nat) : Int) := by omega
  have hik : i + (n + 1 - i) = n + 1 := by omega
  have hold : (Builtin.firstCells i0.size i (.slice (some ⟨b, off, none⟩) i c)).run Try.prog w.drew = .ok (cs.take (i)).toArray w.drew := by
    rw [hzs]
    exact run_firstCells_some w.drew 1 i ⟨b, off, none⟩ i c (cs.take (i)) (by rw [List.length_take]; omega) (fun j v hj => by
      rw [Addr.add_lit]
      rw [List.getElem?_take] at hj
      split at hj
      · exact hcs j v hj
      · cases hj)
  have hrz : ∀ ty, (Builtin.append_ #[105, 3] ty #[.slice (some ⟨b, off, none⟩) i c, .int .i64 ((n : Int) + (1 : Int) - (i : Int))]).run Try.prog w =
      .ok (.slice (some ⟨w.heap.size, 0, none⟩) (n + 1) (grownCap w (n + 1) c 61)) (w.drew.alloc (.cells ((cs.take (i)).toArray ++ Builtin.zeroCells (Value.pointer none).cells (n + 1 - i) ++ Builtin.zeroCells (Value.pointer none).cells (grownCap w (n + 1) c 61 - (n + 1))) 61)) := fun ty => by
    have h := Lib.run_append_grow_zeros w 105 3 ty 61 i0 _ .i64 .i64 t105 t3 hi0 hz0 (some ⟨b, off, none⟩) i c (cs.take (i)) hold (n + 1 - i) (by omega) (by omega) (by omega) (by omega) (by rw [hzb]; omega) (by rw [hzb, hik]; exact growslice_fits hroom hbig)
    rw [hik] at h
    rw [hkk]
    exact h
  obtain ⟨G, hG⟩ : ∃ G, G = grownCap w (n + 1) c 61 := ⟨_, rfl⟩
  obtain ⟨ROW, hROW⟩ : ∃ ROW : Array Value, ROW = (cs.take (i)).toArray ++ Builtin.zeroCells (Value.pointer none).cells (n + 1 - i) ++ Builtin.zeroCells (Value.pointer none).cells (G - (n + 1)) := ⟨_, rfl⟩
  rw [← hG] at hrz
  rw [← hROW] at hrz
  have hGn : n + 1 ≤ G := by rw [hG]; exact grownCap_ge w _ _ _
  have hRl : ROW.size = G := by
    rw [hROW]
    simp [Builtin.zeroCells, Value.cells]
    omega
  have hRc : ∀ j v, j < i → cs[j]? = some v → ROW[j]? = some v := by
    intro j v hj hv
    have hjl : j < cs.length := (List.getElem?_eq_some_iff.1 hv).1
    rw [hROW, Array.getElem?_append_left (by simp; omega), Array.getElem?_append_left (by simp; omega), List.getElem?_toArray, List.getElem?_take, if_pos hj]
    exact hv
  obtain ⟨W1, hW1⟩ : ∃ W1, W1 = w.drew.alloc (.cells ROW 61) := ⟨_, rfl⟩
  rw [← hW1] at hrz
  have hN : ∀ j, j < (n + 1) → (W1.cell? ⟨w.heap.size, j, none⟩).isSome = true := fun j hj => by
    rw [hW1, World.cell?_alloc_at (w := w.drew) ROW _ w.heap.size j rfl, Array.getElem?_eq_getElem (by omega)]; rfl
  have hNf : ∀ j, W1.frozen? ⟨w.heap.size, j, none⟩ = false := fun j => by rw [hW1]; exact World.frozen?_alloc_at (w := w.drew) ROW _ w.heap.size j rfl
  have hOb : ∀ j v, w.cell? ⟨b, j, none⟩ = some v → W1.cell? ⟨b, j, none⟩ = some v := fun j v h => by rw [hW1, World.cell?_alloc_past (w := w.drew) _ b j hbw]; exact h
  have hOv : ∀ j v, w.cell? ⟨vb, j, none⟩ = some v → W1.cell? ⟨vb, j, none⟩ = some v := fun j v h => by rw [hW1, World.cell?_alloc_past (w := w.drew) _ vb j hvw]; exact h
  have hcpA : ∀ (W : World), (∀ x, W.cell? x = W1.cell? x) → (∀ x, W.frozen? x = W1.frozen? x) → ∀ ty dc, (Builtin.copy_ #[105, 105] ty #[.slice (some ⟨w.heap.size, i, none⟩) (n + 1 - i) dc, .slice (some ⟨vb, voff, none⟩) 1 vc]).run Try.prog W = .ok (goInt (1 : Nat)) (W.setCells w.heap.size (i) vs) := fun W hWc hWf ty dc =>
    run_copyN W _ _ ty 61 w.heap.size (i) (n + 1 - i) dc ⟨vb, voff, none⟩ 1 vc 1 1 vs t105 hsz (by simp only [Nat.min_def]; split <;> omega) (by rw [hvl])
      (fun j v hj => by rw [Addr.add_lit, hWc]; exact hOv _ v (hvs j v hj))
      (fun j hj => by rw [hWc]; exact hN _ (by rw [hvl] at hj; omega)) (fun j hj => by rw [hWf]; exact hNf _) h1v
  have hG63 : G ≤ 9223372036854775807 := by
    have := grownCap_le_maxLen w (n + 1) c 61 (by unfold maxLen; omega)
    rw [← hG] at this
    unfold maxLen at this
    omega
  have hGi : ¬ (G = i) := by omega
  have hGim : ¬ (G = i + 1) := by omega
  have hci : ¬ (c = i) := by omega
  have hbN : b ≠ w.heap.size := by omega
  have hdl : (cs.drop (i)).length = (n - i) := by rw [List.length_drop, hcl]
  have hcpB : ∀ (W : World), (∀ x, W.cell? x = (W1.setCells w.heap.size (i) vs).cell? x) → (∀ x, W.frozen? x = (W1.setCells w.heap.size (i) vs).frozen? x) → ∀ ty dc sc, (Builtin.copy_ #[105, 105] ty #[.slice (some ⟨w.heap.size, (i + 1), none⟩) (n - i) dc, .slice (some ⟨b, off + i, none⟩) (n - i) sc]).run Try.prog W = .ok (goInt (n - i : Nat)) (W.setCells w.heap.size ((i + 1)) (cs.drop (i))) := fun W hWc hWf ty dc sc =>
    run_copyN W _ _ ty 61 w.heap.size ((i + 1)) (n - i) dc ⟨b, off + i, none⟩ (n - i) sc 1 (n - i) (cs.drop (i)) t105 hsz (by simp only [Nat.min_def]; split <;> omega) (by rw [hdl, Nat.mul_one])
      (fun j v hj => by
        rw [Addr.add_lit, hWc, World.cell?_setCells_out _ _ _ _ _ (fun h _ => absurd h hbN), Nat.add_assoc]
        exact hOb _ v (hcs (i + j) v (by rwa [List.getElem?_drop] at hj)))
      (fun j hj => by rw [hWc]; exact isSome_setC _ _ _ _ (fun t ht => hN _ (by rw [hvl] at ht; omega)) _ (hN _ (by rw [hdl] at hj; omega)))
      (fun j hj => by rw [hWf, World.frozen?_setCells]; exact hNf _) (fun v hv => h1c v (List.mem_of_mem_drop hv))
  subst hW1
  have hE1 : ∀ x, ((w.alloc (.cells ROW 61)).drew).cell? x = (w.drew.alloc (.cells ROW 61)).cell? x := fun x => rfl
  have hE2 : ∀ x, ((w.alloc (.cells ROW 61)).drew).frozen? x = (w.drew.alloc (.cells ROW 61)).frozen? x := fun x => rfl
  have hF1 : ∀ x, (((w.alloc (.cells ROW 61)).drew.setCells w.heap.size (i) vs).drew).cell? x = ((w.drew.alloc (.cells ROW 61)).setCells w.heap.size (i) vs).cell? x := fun x => rfl
  have hF2 : ∀ x, (((w.alloc (.cells ROW 61)).drew.setCells w.heap.size (i) vs).drew).frozen? x = ((w.drew.alloc (.cells ROW 61)).setCells w.heap.size (i) vs).frozen? x := fun x => rfl
  have hw1 : IntKind.i64.wrap ((i : Int) + (1 : Int)) = (i : Int) + (1 : Int) := by rw [IntKind.wrap_i64]; omega
  have hb1 : (0 : Int) ≤ (i : Int) + (1 : Int) := by omega
  have hin : i ≤ n := by omega
  have htn : ((i : Int) + (1 : Int)).toNat = i + 1 := by omega
  have hb3 : (i : Int) ≤ (n : Int) := by omega
  have mixed : Try.prog.follows Departure.mixedOrders = true := by kernel_rfl
  clear hkk hik hold hROW hG
  go_enter Try.func97, Try.ntmps97
  go_wp2_with (first
    | (at_builtin; refine Lib.wpList_append_run _ rfl _ _ _ _ rfl _ _ rfl rfl _ _ (hrz _) ?_)
    | (at_builtin; refine wpList_copyI _ rfl _ _ 105 105 rfl _ _ rfl rfl (hcpA _ hE1 hE2 _ _) ?_)
    | (at_builtin; refine wpList_copyI _ rfl _ _ 105 105 rfl _ _ rfl rfl (hcpB _ (fun _ => rfl) (fun _ => rfl) _ _ _) ?_))
  go_region_law_o (refine step_copyI rfl _ _ 105 105 rfl (.slice (some ⟨w.heap.size, (i + 1), none⟩) (n - i) (G - (i + 1))) (.slice (some ⟨b, off + i, none⟩) (n - i) (c - i)) (by simp [Act.eval, Act.put]) (by simp [Act.eval, Act.put]) (hcpB _ hF1 hF2 3 (G - (i + 1)) (c - i)) ?_)
  go_wp2
  go_ret
  exact ⟨G, ROW, hGn, hRl, hRc, rfl, rfl⟩
end Go.Vm
namespace Go.Vm
open Go.Proofs Go.RowKit
set_option maxRecDepth 100000
set_option linter.unusedVariables false
set_option linter.unusedSimpArgs false

/-- The same where elements are told in many ways. -/
def cInsEF {α : Type} (sz : Nat) (enc : Nat → α → List D) : Con := { X := Nat × InsE α, params := [(.take, false), (.rd, false), (.take, false)], res := [false], resOwn := true, ins := fun x => [[.row sz (enc x.1) x.2.l], [.lf (.int .i64 x.2.l.length)], [.row sz (enc x.1) [x.2.p]]], post := fun x outs r => outs = [] ∧ r = [[.row sz (enc x.1) (x.2.l ++ [x.2.p])]] }
def cInsF {α : Type} (sz : Nat) (enc : Nat → α → List D) : Con := { X := Nat × InsX α, params := [(.take, false), (.rd, false), (.take, false)], res := [false], resOwn := true, ins := fun x => [[.row sz (enc x.1) x.2.l], [.lf (.int .i64 x.2.i)], [.row sz (enc x.1) [x.2.p]]], post := fun x outs r => outs = [] ∧ r = [[.row sz (enc x.1) (insAt x.2.l x.2.i x.2.p)]] }
theorem ev_insTwE : ∀ x, evFnX tab [] (cInsEF 1 twE) Try.f97 (body Try.f97) x := by
  rintro ⟨n, l, p, hl⟩
  replace hl : l.length ≤ 2000000 := hl
  conv => whnf
  refine ⟨Int.natCast_nonneg _, Int.le_refl _, Int.le_refl _, ?_⟩
  conv => whnf
  intro _
  conv => whnf
  intro _
  conv => whnf
  refine br2 (fun h1 => ?_) (fun h1 => ?_)
  · conv => whnf
    refine ⟨[p], rfl, ?_, ?_⟩
    · show l.length + 1 ≤ 4294967296; omega
    conv => whnf
    exact ⟨⟨rfl, rfl⟩⟩
  · exfalso
    replace h1 : ((l.length : Int) == (l.length : Int)) = false := h1
    simp at h1
theorem insTwE_ok : FnOk Try.prog 97 (cInsEF 1 twE) := fnOk_of fun x => fnX_at tab_ok (SOk.nil) mixed (fn := Try.f97) (code := body Try.f97) ⟨Try.func97, rfl, by kernel_rfl, by kernel_rfl, by kernel_rfl, by kernel_rfl⟩ (ev_insTwE x)
theorem insE_of {P : Program} {f : FuncId} {sz : Nat} {α : Type} {enc : Nat → α → List D} (h : FnOk P f (cInsEF sz enc)) (n : Nat) : FnOk P f (cInsE sz (enc n)) := by
  intro x w args R Kp Fs ha hD hcl hK hR
  have conv : ∀ v w', (∃ outs res N rs Hs Os, Out (cInsEF sz enc) (n, x) w args Kp Fs v w' outs res N rs Hs Os) → ∃ outs res N rs Hs Os, Out (cInsE sz (enc n)) x w args Kp Fs v w' outs res N rs Hs Os := by
    rintro v w' ⟨outs, res, N, rs, Hs, Os, o⟩
    exact ⟨outs, res, N, rs, Hs, Os, ⟨o.post, o.shape, o.frame, o.new, o.res, o.ret, o.outs, o.dis, o.src, o.cl⟩⟩
  rcases h (n, x) w args R Kp Fs ha hD hcl hK hR with ⟨fn, h1, h2, h3, h4⟩ | ⟨v, w', h1, h2⟩
  · exact .inl ⟨fn, h1, h2, h3, h4.mono fun e w' ⟨v, e1, ho⟩ => ⟨v, e1, conv v w' ho⟩⟩
  · exact .inr ⟨v, w', h1, conv v w' h2⟩
theorem insF_of {P : Program} {f : FuncId} {sz : Nat} {α : Type} {enc : Nat → α → List D} (h : ∀ n, FnOk P f (cIns sz (enc n))) : FnOk P f (cInsF sz enc) := by
  rintro ⟨n, x⟩ w args R Kp Fs ha hD hcl hK hR
  have conv : ∀ v w', (∃ outs res N rs Hs Os, Out (cIns sz (enc n)) x w args Kp Fs v w' outs res N rs Hs Os) → ∃ outs res N rs Hs Os, Out (cInsF sz enc) (n, x) w args Kp Fs v w' outs res N rs Hs Os := by
    rintro v w' ⟨outs, res, N, rs, Hs, Os, o⟩
    exact ⟨outs, res, N, rs, Hs, Os, ⟨o.post, o.shape, o.frame, o.new, o.res, o.ret, o.outs, o.dis, o.src, o.cl⟩⟩
  rcases h n x w args R Kp Fs ha hD hcl hK hR with ⟨fn, h1, h2, h3, h4⟩ | ⟨v, w', h1, h2⟩
  · exact .inl ⟨fn, h1, h2, h3, h4.mono fun e w' ⟨v, e1, ho⟩ => ⟨v, e1, conv v w' ho⟩⟩
  · exact .inr ⟨v, w', h1, conv v w' h2⟩
theorem shift1 : ShiftOk Try.prog 97 1 := fun b off n c i vb voff vc cs vs w h1 h2 h3 h4 h5 h6 h7 h8 h9 h10 h11 h12 tA tB kA kB h13 h14 h15 h16 h17 => by
  rw [Nat.mul_one] at h5
  rw [Nat.mul_one, Nat.mul_one]
  exact ins1_shift b off n c i vb voff vc cs vs w h1 h2 h3 h4 h5 h6 h7 (fun j hj => h8 j (by omega)) (fun j hj => h9 j (by omega)) h10 h11 h12 tA tB kA kB h13 h14 h15 h16 h17
theorem grow1 : GrowOk Try.prog 97 1 61 := fun b off n c i vb voff vc cs vs w h1 h2 h3 h4 h5 h6 h7 h8 h9 h10 h11 h12 => by
  rw [Nat.mul_one] at h5
  refine (ins1_grow b off n c i vb voff vc cs vs w h1 h2 h3 (by omega) h5 h6 h7 h8 h9 h10 h11 h12).mono fun e w' ⟨G, ROW, g1, g2, g3, g4, g5⟩ => ⟨G, ROW, g1, by rw [Nat.mul_one]; exact g2, fun j v hj => g3 j v (by omega), g4, ?_⟩
  rw [Nat.mul_one, Nat.mul_one]; exact g5
theorem insTw_full : FnOk Try.prog 97 (cInsF 1 twE) :=
  insF_of fun n => ins_full (insE_of insTwE_ok n) fun x hx => ins_mid (sz := 1) (enc := twE n) (twE_len n) (by decide) ⟨Try.f97, by kernel_rfl, by kernel_rfl, by kernel_rfl⟩ shift1 grow1 x hx
theorem insTw_ok : FnOk Try.prog 97 (cInsF 1 twE) := insTw_full
end Go.Vm
namespace Go.Vm
open Go.Proofs
set_option maxRecDepth 100000
set_option linter.unusedVariables false
set_option linter.unusedSimpArgs false

theorem insL_end {p : RngX} {l : List RngX} (h : ∀ a ∈ l, strLt a.lo p.lo = true) : insL p l = l ++ [p] := by
  have := insL_front (p := p) (A := l) (B := []) h
  rwa [List.append_nil] at this
/-- What the loop over a leaf's pairs has come to. -/
structure InsI (p : RngX) (l : List RngX) (i : Nat) (done : Bool) (out : List RngX) : Prop where
  no : done = false → out = l.take i ∧ ∀ a ∈ l.take i, strLt a.lo p.lo = true
  yes : done = true → out = insL p (l.take i) ∧ ∀ j x, i ≤ j → l[j]? = some x → strLt p.lo x.lo = true
theorem srt_get {l : List RngX} (h : Srt l) {i j : Nat} {x y : RngX} (hij : i < j) (hx : l[i]? = some x) (hy : l[j]? = some y) : strLt x.lo y.lo = true := by
  obtain ⟨h1, rfl⟩ := List.getElem?_eq_some_iff.1 hx
  obtain ⟨h2, rfl⟩ := List.getElem?_eq_some_iff.1 hy
  exact List.pairwise_iff_getElem.1 h i j h1 h2 hij
theorem InsI.skip {p : RngX} {l : List RngX} {i : Nat} {out : List RngX} (h : InsI p l i false out) {x : RngX} (hx : l[i]? = some x) (hlt : strLt x.lo p.lo = true) : InsI p l (i + 1) false (out ++ [x]) := by
  obtain ⟨h1, h2⟩ := h.no rfl
  refine ⟨fun _ => ⟨?_, fun a ha => ?_⟩, fun h => by cases h⟩
  · rw [List.take_add_one, hx, h1]; rfl
  · rw [List.take_add_one, hx] at ha
    simp at ha
    rcases ha with ha | rfl
    · exact h2 a ha
    · exact hlt
theorem InsI.hit {p : RngX} {l : List RngX} {i : Nat} {out : List RngX} (h : InsI p l i false out) (hs : Srt l) {x : RngX} (hx : l[i]? = some x) (heq : x.lo = p.lo) : InsI p l (i + 1) true (out ++ [p]) := by
  obtain ⟨h1, h2⟩ := h.no rfl
  refine ⟨fun h => (by cases h), fun _ => ⟨?_, fun j y hj hy => ?_⟩⟩
  · rw [List.take_add_one, hx, h1]
    show _ = insL p (l.take i ++ [x])
    rw [insL_front h2]
    simp [insL, heq, strLt_irrefl]
  · rw [← heq]; exact srt_get hs (by omega) hx hy
theorem InsI.new {p : RngX} {l : List RngX} {i : Nat} {out : List RngX} (h : InsI p l i false out) (hs : Srt l) {x : RngX} (hx : l[i]? = some x) (hlt : strLt p.lo x.lo = true) : InsI p l (i + 1) true (out ++ [p] ++ [x]) := by
  obtain ⟨h1, h2⟩ := h.no rfl
  refine ⟨fun h => (by cases h), fun _ => ⟨?_, fun j y hj hy => ?_⟩⟩
  · rw [List.take_add_one, hx, h1]
    show _ = insL p (l.take i ++ [x])
    rw [insL_front h2]
    simp [insL, lt_asym hlt, hlt]
  · exact strLt_trans hlt (srt_get hs (by omega) hx hy)
theorem InsI.more {p : RngX} {l : List RngX} {i : Nat} {out : List RngX} (h : InsI p l i true out) {x : RngX} (hx : l[i]? = some x) : InsI p l (i + 1) true (out ++ [x]) ∧ x.lo ≠ p.lo := by
  obtain ⟨h1, h2⟩ := h.yes rfl
  refine ⟨⟨fun h => (by cases h), fun _ => ⟨?_, fun j y hj hy => h2 j y (by omega) hy⟩⟩, fun e => ?_⟩
  · rw [List.take_add_one, hx, h1]
    show _ = insL p (l.take i ++ [x])
    rw [insL_back (.inr (h2 i x (Nat.le_refl _) hx))]
  · have := h2 i x (Nat.le_refl _) hx
    rw [e, strLt_irrefl] at this; cases this
theorem InsI.all {p : RngX} {l : List RngX} {done : Bool} {out : List RngX} (h : InsI p l l.length done out) : (if done then out else out ++ [p]) = insL p l := by
  cases done with
  | false =>
    obtain ⟨h1, h2⟩ := h.no rfl
    rw [List.take_length] at h1 h2
    rw [insL_end h2, h1]; rfl
  | true =>
    have h1 := (h.yes rfl).1
    rw [List.take_length] at h1
    rw [h1]; rfl
theorem InsI.len {p : RngX} {l : List RngX} {i : Nat} {done : Bool} {out : List RngX} (h : InsI p l i done out) (hi : i ≤ l.length) : out.length ≤ l.length + 1 := by
  cases done with
  | false => rw [(h.no rfl).1, List.length_take]; omega
  | true => rw [(h.yes rfl).1]; have := (insL_len p (l.take i)).2.1; rw [List.length_take] at this; omega
end Go.Vm
namespace Go.Vm
open Go.Proofs
set_option maxRecDepth 100000
set_option linter.unusedVariables false
set_option linter.unusedSimpArgs false

theorem insL_hit {p x : RngX} {l : List RngX} {i : Nat} (h : ∀ a ∈ l.take i, strLt a.lo p.lo = true) (hx : l[i]? = some x) (he : x.lo = p.lo) : insL p l = l.set i p := by
  have hi := (List.getElem?_eq_some_iff.1 hx).1
  have e := at_split hx
  have e2 : l.set i p = l.take i ++ p :: l.drop (i + 1) := by
    conv => lhs; rw [e]
    rw [List.set_append_right _ _ (by rw [List.length_take]; omega), List.length_take, show i - min i l.length = 0 by omega]; rfl
  rw [e2]
  conv => lhs; rw [e]
  rw [insL_front h]
  simp [insL, he, strLt_irrefl]
theorem insL_mid {p x : RngX} {l : List RngX} {i : Nat} (h : ∀ a ∈ l.take i, strLt a.lo p.lo = true) (hx : l[i]? = some x) (hl : strLt p.lo x.lo = true) : insL p l = insAt l i p := by
  have e := at_split hx
  have hd : l.drop i = x :: l.drop (i + 1) := List.drop_eq_getElem_cons (List.getElem?_eq_some_iff.1 hx).1 ▸ by rw [(List.getElem?_eq_some_iff.1 hx).2]
  conv => lhs; rw [e]
  rw [insL_front h]
  unfold insAt
  rw [hd]
  simp [insL, lt_asym hl, hl]
theorem insL_last {p : RngX} {l : List RngX} (h : ∀ a ∈ l.take l.length, strLt a.lo p.lo = true) : insL p l = insAt l l.length p := by
  rw [List.take_length] at h
  rw [insAt_end, insL_end h]
/-- A node, or none any more. -/
def twOE (n : Nat) : Option Tw → List D
  | none => [.dead]
  | some x => twE n x
theorem twOE_len (n : Nat) (o : Option Tw) : (twOE n o).length = 1 := by cases o <;> first | rfl | exact twE_len _ _
structure PutI where
  n : Nat
  x : Tw
  b : Bool
  d : Nat
  h : Shp b d x
  hn : d ≤ n
  p : RngX
  hs : Srt x.all
def cPutI : Con := { X := PutI, params := [(.mut, false), (.rd, true)], res := [false], resOwn := true, ins := fun a => [twE a.n a.x, a.p.ds], post := fun a outs r => ∃ u j, outs = [twE a.n (.mk u j)] ∧ (a.x.put a.d a.p = (.mk u j, none) ∧ r = [[.lf (.pointer none)]] ∨ ∃ u2 j2, a.x.put a.d a.p = (.mk u j, some (.mk u2 j2)) ∧ r = [twE a.n (.mk u2 j2)]) }
theorem ev_put : ∀ n x, (fun a => a.d) x = n → evFnX tab [(71, cPutI.below (fun a => a.d) n), (1000003, cGh), (1000004, cGh), (1000008, cGh), (95, (pureC (Nat × Tw) [(.rd, false)] [false] (fun t => [twE (t.1 + 1) t.2]) (fun t => [[.lf (.bool (decide (t.2.ks.length = 0)))]]))), (96, cKid), (92, (cCopyS 2 RngX.ds)), (98, (cIns 2 RngX.ds)), (97, (cInsF 1 twE))] cPutI Try.f71 (body Try.f71) x := by
  rintro N ⟨n, ⟨ps, ks⟩, b, d, h, hn, p, hs⟩ rfl
  have hpos := h.pos
  obtain ⟨n, rfl⟩ : ∃ m, n = m + 1 := ⟨n - 1, by omega⟩
  cases ks with
  | nil =>
    conv => whnf
    refine ⟨(n, .mk ps []), rfl, ?_⟩
    rintro _ _ ⟨rfl, rfl⟩
    conv => whnf
    have hd : d = 1 := by cases h with | leaf => rfl | node h1 _ _ => simp at h1
    have hps : ps.length ≤ 4 := by cases h with | leaf _ h2 => exact h2 | node h1 _ _ => simp at h1
    subst hd
    let S0 : Nat → Sl := fun i => [(8, .lf (.int .i64 i)), (3, .pt 48 0 0), (1000000, .pt 0 0 0), (0, .pt 0 0 0)]
    let H0 : Hp := [(48, some (.arr true 2 [[.lf (.string p.lo), .lf (.string p.hi)]])), (0, some (.arr true 2 [[.sl 1 none, .sl 2 none]])), (2, some (.row .own 1 (twE n) [])), (1, some (.row .own 2 RngX.ds ps))]
    refine ⟨fun m s h => ∃ i : Nat, i ≤ ps.length ∧ (∀ a ∈ ps.take i, strLt a.lo p.lo = true) ∧ m = ps.length - i ∧ s = S0 i ∧ h = H0, ps.length, [(48, 48), (0, 0), (2, 2), (1, 1)], S0 0, H0, ⟨rfl, ⟨rfl, rfl, rfl, rfl, trivial⟩, rfl, rfl, rfl, rfl, trivial⟩, ⟨0, by omega, fun a ha => by simp at ha, by omega, rfl, rfl⟩, ?_⟩
    rintro m _ _ ⟨i, g1, g2, rfl, rfl, rfl⟩
    conv => whnf
    intro _
    conv => whnf
    refine br2 (fun h5 => ?_) (fun h5 => ?_)
    · have hi : i < ps.length := by have := of_decide_eq_true h5; omega
      obtain ⟨x, hx⟩ := getL hi
      conv => whnf
      refine ⟨Int.natCast_nonneg _, ltI hx, ?_⟩
      conv => whnf
      refine ex2 _ (nthI hx) ?_
      conv => whnf
      refine br2 (fun h6 => ?_) (fun h6 => ?_)
      · conv => whnf
        refine ⟨ps.length - (i + 1), [(48, 48), (0, 0), (2, 2), (1, 1)], S0 (i + 1), H0, by omega, ⟨rfl, ⟨incI hi (by omega), rfl, rfl, rfl, trivial⟩, rfl, rfl, rfl, rfl, trivial⟩, i + 1, hi, fun a ha => ?_, rfl, rfl, rfl⟩
        rw [List.take_add_one, hx] at ha
        simp at ha
        rcases ha with ha | rfl
        · exact g2 a ha
        · exact h6
      · conv => whnf
        intro _
        conv => whnf
        refine br2 (fun h7 => ?_) (fun h7 => ?_)
        · conv => whnf
          refine ⟨Int.natCast_nonneg _, ltI hx, ?_⟩
          conv => whnf
          refine ex2 _ (nthI hx) ?_
          conv => whnf
          refine br2 (fun h8 => ?_) (fun h8 => ?_)
          · have h8' : x.lo = p.lo := strEq_iff.1 h8
            conv => whnf
            refine ⟨Int.natCast_nonneg _, ltI hx, ?_⟩
            conv => whnf
            refine ex2 _ (nthI hx) ?_
            conv => whnf
            refine ⟨p, rfl, ?_⟩
            conv => whnf
            refine ⟨⟨ps.set i p, [], rfl, .inl ⟨?_, rfl⟩⟩⟩
            show Tw.put 1 (.mk ps []) p = _
            rw [put_leaf, insL_hit g2 hx h8']
            unfold splitP
            rw [if_pos (by rw [List.length_set]; exact hps)]
          · have h8' : strLt p.lo x.lo = true := by
              cases e : strLt p.lo x.lo with
              | true => rfl
              | false =>
                replace h8 : strEq x.lo p.lo = false := h8
                rw [strEq_no] at h8
                exact absurd (strLt_tri h6 e) h8
            have hins := insL_mid g2 hx h8'
            conv => whnf
            repeat ((first | refine rc_i rfl ?_ | refine rc_i (fun _ => rfl) ?_); conv => whnf)
            refine ⟨RngX, RngX.ds, [p], fun _ => rfl, rfl, ?_⟩
            conv => whnf
            refine ⟨⟨ps, i, p, g1, by omega⟩, rfl, ?_⟩
            rintro _ _ ⟨rfl, rfl⟩
            conv => whnf
            repeat ((first | refine rc_i rfl ?_ | refine rc_i (fun _ => rfl) ?_); conv => whnf)
            have hl2 : (insAt ps i p).length = ps.length + 1 := insAt_len _ _ _
            intro _
            conv => whnf
            refine br2 (fun h9 => ?_) (fun h9 => ?_)
            · have h9' : (insAt ps i p).length ≤ 4 := by
                replace h9 : decide (((insAt ps i p).length : Int) ≤ 4) = true := h9
                have := of_decide_eq_true h9; omega
              conv => whnf
              refine ⟨⟨insAt ps i p, [], rfl, .inl ⟨?_, rfl⟩⟩⟩
              show Tw.put 1 (.mk ps []) p = _
              rw [put_leaf, hins]
              unfold splitP
              rw [if_pos h9']
            · have h9' : ¬ (insAt ps i p).length ≤ 4 := by
                replace h9 : decide (((insAt ps i p).length : Int) ≤ 4) = false := h9
                have := of_decide_eq_false h9; omega
              conv => whnf
              refine ⟨by decide, (show (3 : Int) ≤ ((insAt ps i p).length : Int) by omega), Int.le_refl _, ?_⟩
              conv => whnf
              refine ⟨⟨((insAt ps i p).drop 3).take (((insAt ps i p).length : Int) - 3).toNat, (by rw [List.length_take, List.length_drop]; omega)⟩, rfl, ?_⟩
              rintro _ _ ⟨rfl, rfl⟩
              conv => whnf
              refine ⟨by decide, by decide, by decide, (show (3 : Int) ≤ ((insAt ps i p).length : Int) by omega), ?_⟩
              conv => whnf
              refine ⟨1, Tw, twE n, twE_len n, ?_⟩
              conv => whnf
              refine ⟨RngX, RngX.ds, _, fun _ => rfl, rfl, ?_⟩
              conv => whnf
              refine ⟨⟨(insAt ps i p).take 3, [], rfl, .inr ⟨(insAt ps i p).drop 3, [], ?_, ?_⟩⟩⟩
              · show Tw.put 1 (.mk ps []) p = _
                rw [put_leaf, hins]
                unfold splitP
                rw [if_neg h9']
              · show [[D.box [D.row 2 RngX.ds (((insAt ps i p).drop 3).take (((insAt ps i p).length : Int) - 3).toNat), D.row 1 (twE n) []]]] = [[D.box [D.row 2 RngX.ds ((insAt ps i p).drop 3), D.row 1 (twE n) []]]]
                rw [cut3]
        · exfalso
          have := of_decide_eq_false h7
          omega
    · have hi : i = ps.length := by have := of_decide_eq_false h5; omega
      subst hi
      have hins := insL_last g2
      conv => whnf
      intro _
      conv => whnf
      refine br2 (fun h7 => ?_) (fun h7 => ?_)
      · exfalso
        have := of_decide_eq_true h7
        omega
      · skip
        conv => whnf
        repeat ((first | refine rc_i rfl ?_ | refine rc_i (fun _ => rfl) ?_); conv => whnf)
        refine ⟨RngX, RngX.ds, [p], fun _ => rfl, rfl, ?_⟩
        conv => whnf
        refine ⟨⟨ps, ps.length, p, g1, by omega⟩, rfl, ?_⟩
        rintro _ _ ⟨rfl, rfl⟩
        conv => whnf
        repeat ((first | refine rc_i rfl ?_ | refine rc_i (fun _ => rfl) ?_); conv => whnf)
        have hl2 : (insAt ps ps.length p).length = ps.length + 1 := insAt_len _ _ _
        intro _
        conv => whnf
        refine br2 (fun h9 => ?_) (fun h9 => ?_)
        · have h9' : (insAt ps ps.length p).length ≤ 4 := by
            replace h9 : decide (((insAt ps ps.length p).length : Int) ≤ 4) = true := h9
            have := of_decide_eq_true h9; omega
          conv => whnf
          refine ⟨⟨insAt ps ps.length p, [], rfl, .inl ⟨?_, rfl⟩⟩⟩
          show Tw.put 1 (.mk ps []) p = _
          rw [put_leaf, hins]
          unfold splitP
          rw [if_pos h9']
        · have h9' : ¬ (insAt ps ps.length p).length ≤ 4 := by
            replace h9 : decide (((insAt ps ps.length p).length : Int) ≤ 4) = false := h9
            have := of_decide_eq_false h9; omega
          conv => whnf
          refine ⟨by decide, (show (3 : Int) ≤ ((insAt ps ps.length p).length : Int) by omega), Int.le_refl _, ?_⟩
          conv => whnf
          refine ⟨⟨((insAt ps ps.length p).drop 3).take (((insAt ps ps.length p).length : Int) - 3).toNat, (by rw [List.length_take, List.length_drop]; omega)⟩, rfl, ?_⟩
          rintro _ _ ⟨rfl, rfl⟩
          conv => whnf
          refine ⟨by decide, by decide, by decide, (show (3 : Int) ≤ ((insAt ps ps.length p).length : Int) by omega), ?_⟩
          conv => whnf
          refine ⟨1, Tw, twE n, twE_len n, ?_⟩
          conv => whnf
          refine ⟨RngX, RngX.ds, _, fun _ => rfl, rfl, ?_⟩
          conv => whnf
          refine ⟨⟨(insAt ps ps.length p).take 3, [], rfl, .inr ⟨(insAt ps ps.length p).drop 3, [], ?_, ?_⟩⟩⟩
          · show Tw.put 1 (.mk ps []) p = _
            rw [put_leaf, hins]
            unfold splitP
            rw [if_neg h9']
          · show [[D.box [D.row 2 RngX.ds (((insAt ps ps.length p).drop 3).take (((insAt ps ps.length p).length : Int) - 3).toNat), D.row 1 (twE n) []]]] = [[D.box [D.row 2 RngX.ds ((insAt ps ps.length p).drop 3), D.row 1 (twE n) []]]]
            rw [cut3]
  | cons k ks =>
    cases h with
    | node h1 h2 h3 =>
    rename_i d
    replace hs : Srt (Tw.alls (k :: ks)) := by simpa [Tw.all] using hs
    have hn' : d ≤ n := by omega
    have h2' : (k :: ks).length ≤ 4 := h2
    conv => whnf
    refine ⟨(n, .mk [] (k :: ks)), rfl, ?_⟩
    rintro _ _ ⟨rfl, rfl⟩
    conv => whnf
    refine ⟨⟨n, [], k :: ks, d, h3, hn', by omega, by simp, p.lo⟩, rfl, ?_⟩
    rintro _ _ ⟨rfl, i, rfl, w⟩
    replace w : Way (k :: ks) p.lo i := w
    have hi := w.lt
    obtain ⟨y, hy⟩ := getL hi
    have hys := h3 y (List.mem_of_getElem? hy)
    have hyp := hys.pos
    obtain ⟨n, rfl⟩ : ∃ m, n = m + 1 := ⟨n - 1, by omega⟩
    have hsy : Srt y.all := by
      rw [Tw.alls_at hy, Srt.app, Srt.app] at hs
      exact hs.2.1.1
    have hwi : wayI (k :: ks) p.lo = i := (wayI_way (by simp)).uniq w hs h3
    have hpn := put_node (n := d) (ps := []) hwi hy
    obtain ⟨us, is⟩ := y
    conv => whnf
    refine ⟨[.foc 2 i 1000], ?_⟩
    conv => whnf
    refine ex2 _ (by rw [nth_eq]; exact hy) ?_
    conv => whnf
    refine ⟨Int.natCast_nonneg _, ltI hy, ?_⟩
    conv => whnf
    repeat (refine rc_i (by (conv => whnf); first | rfl | exact fun _ => rfl | exact ⟨Int.natCast_nonneg _, ltI hy, rfl⟩ | exact ⟨Int.toNat_natCast _, rfl⟩) ?_; conv => whnf)
    refine ⟨Int.toNat_natCast _, ?_⟩
    conv => whnf
    repeat (refine rc_i (by (conv => whnf); first | rfl | exact fun _ => rfl | exact ⟨Int.natCast_nonneg _, ltI hy, rfl⟩ | exact ⟨Int.toNat_natCast _, rfl⟩) ?_; conv => whnf)
    refine ⟨⟨⟨n + 1, .mk us is, false, d, hys, hn', p, hsy⟩, Nat.lt_succ_self _⟩, rfl, ?_⟩
    rintro _ _ ⟨u, j, rfl, hcase⟩
    rcases hcase with ⟨hput, rfl⟩ | ⟨u2, j2, hput, rfl⟩
    · conv => whnf
      repeat (refine rc_i (by (conv => whnf); first | rfl | exact fun _ => rfl | exact ⟨Int.natCast_nonneg _, ltI hy, rfl⟩ | exact ⟨Int.toNat_natCast _, rfl⟩) ?_; conv => whnf)
      refine ⟨[.unf 2], ?_⟩
      conv => whnf
      refine ⟨.mk u j, rfl, ?_⟩
      conv => whnf
      intro _
      conv => whnf
      have hsl : ((k :: ks).set i (.mk u j)).length = (k :: ks).length := List.length_set
      have hse : (k :: ks).set i (.mk u j) = (k :: ks).take i ++ (two ((Tw.mk us is).put d p) ++ (k :: ks).drop (i + 1)) := by
        rw [hput]
        conv => lhs; rw [at_split hy]
        rw [List.set_append_right _ _ (by rw [List.length_take]; omega), List.length_take, show i - min i (k :: ks).length = 0 by omega]; rfl
      refine br2 (fun h9 => ?_) (fun h9 => ?_)
      · conv => whnf
        refine ⟨⟨[], (k :: ks).set i (.mk u j), rfl, .inl ⟨?_, rfl⟩⟩⟩
        show Tw.put (d + 1) (.mk [] (k :: ks)) p = _
        rw [hpn, ← hse]
        unfold splitK
        rw [if_pos (by omega)]
      · exfalso
        replace h9 : decide ((((k :: ks).set i (.mk u j)).length : Int) ≤ 4) = false := h9
        have := of_decide_eq_false h9
        omega
    · conv => whnf
      repeat (refine rc_i (by (conv => whnf); first | rfl | exact fun _ => rfl | exact ⟨Int.natCast_nonneg _, ltI hy, rfl⟩ | exact ⟨Int.toNat_natCast _, rfl⟩) ?_; conv => whnf)
      refine ⟨[.unf 2], ?_⟩
      conv => whnf
      refine ⟨.mk u j, rfl, ?_⟩
      conv => whnf
      refine ⟨Tw, twE (n + 1), [.mk u2 j2], twE_len _, rfl, ?_⟩
      conv => whnf
      have hw1 : IntKind.i64.wrap ((i : Int) + 1) = ((i + 1 : Nat) : Int) := by rw [w64 (by omega) (by omega)]; rfl
      have hsl : ((k :: ks).set i (.mk u j)).length = (k :: ks).length := List.length_set
      refine ⟨(n + 1, ⟨(k :: ks).set i (.mk u j), i + 1, .mk u2 j2, by omega, by omega⟩), ?_, ?_⟩
      · show [[D.row 1 (twE (n + 1)) ((k :: ks).set i (.mk u j))], [D.lf (.int .i64 ((i + 1 : Nat) : Int))], [D.row 1 (twE (n + 1)) [.mk u2 j2]]] = [[D.row 1 (twE (n + 1)) ((k :: ks).set i (.mk u j))], [D.lf (.int .i64 (IntKind.i64.wrap ((i : Int) + 1)))], [D.row 1 (twE (n + 1)) [.mk u2 j2]]]
        rw [hw1]
      rintro _ _ ⟨rfl, rfl⟩
      conv => whnf
      intro _
      conv => whnf
      have hse : insAt ((k :: ks).set i (.mk u j)) (i + 1) (.mk u2 j2) = (k :: ks).take i ++ (two ((Tw.mk us is).put d p) ++ (k :: ks).drop (i + 1)) := by
        rw [hput]
        unfold insAt
        rw [drop_set_self _ _ _ _ (Nat.lt_succ_self i), List.take_add_one, List.getElem?_set, if_pos rfl, if_pos hi, take_set_self]
        simp [two]
      refine br2 (fun h9 => ?_) (fun h9 => ?_)
      · have h9' : (insAt ((k :: ks).set i (.mk u j)) (i + 1) (.mk u2 j2)).length ≤ 4 := by
          have := of_decide_eq_true h9
          exact Int.ofNat_le.1 this
        conv => whnf
        refine ⟨⟨[], insAt ((k :: ks).set i (.mk u j)) (i + 1) (.mk u2 j2), rfl, .inl ⟨?_, rfl⟩⟩⟩
        show Tw.put (d + 1) (.mk [] (k :: ks)) p = _
        rw [hpn, ← hse]
        unfold splitK
        rw [if_pos h9']
      · have h9' : ¬ (insAt ((k :: ks).set i (.mk u j)) (i + 1) (.mk u2 j2)).length ≤ 4 := by
          replace h9 : decide (((insAt ((k :: ks).set i (.mk u j)) (i + 1) (.mk u2 j2)).length : Int) ≤ 4) = false := h9
          have := of_decide_eq_false h9; omega
        have hj5 : (insAt ((k :: ks).set i (.mk u j)) (i + 1) (.mk u2 j2)).length ≤ 5 := by rw [insAt_len]; omega
        generalize insAt ((k :: ks).set i (.mk u j)) (i + 1) (.mk u2 j2) = js at *
        conv => whnf
        refine ⟨[.enc 592], ?_⟩
        conv => whnf
        refine ⟨Option Tw, twOE (n + 1), js.map some, twOE_len _, by rw [List.map_map]; rfl, ?_⟩
        conv => whnf
        have hjl : (js.map some).length = js.length := List.length_map ..
        refine ⟨by decide, (show (3 : Int) ≤ ((js.map some).length : Int) by omega), Int.le_refl _, ?_⟩
        conv => whnf
        refine ⟨true, ?_⟩
        conv => whnf
        refine ⟨Tw, twE (n + 1), [], twE_len _, rfl, ?_⟩
        conv => whnf
        refine ⟨none, rfl, ?_⟩
        conv => whnf
        refine ⟨js.drop 3, ?_, ?_, ?_⟩
        · show (js.drop 3).map (twE (n + 1)) = (((js.map some).drop 3).take (((js.map some).length : Int) - 3).toNat).map (twOE (n + 1))
          rw [List.take_of_length_le (by rw [List.length_drop]; omega), ← List.map_drop, List.map_map]; rfl
        · show 0 + (js.drop 3).length ≤ 4294967296
          rw [List.length_drop]; omega
        conv => whnf
        refine ⟨by decide, by decide, by decide, (show (3 : Int) ≤ (((js.map some).take 3 ++ List.replicate (((js.map some).length : Int) - 3).toNat none ++ (js.map some).drop (3 + (((js.map some).length : Int) - 3).toNat)).length : Int) by
          rw [List.length_append, List.length_append, List.length_take]; omega), ?_⟩
        conv => whnf
        refine ⟨2, RngX, RngX.ds, fun _ => rfl, ?_⟩
        conv => whnf
        refine ⟨Tw, twE (n + 1), js.take 3, twE_len _, ?_, ?_⟩
        · show (js.take 3).map (twE (n + 1)) = ((((js.map some).take 3 ++ List.replicate (((js.map some).length : Int) - 3).toNat none ++ (js.map some).drop (3 + (((js.map some).length : Int) - 3).toNat)).drop 0).take 3).map (twOE (n + 1))
          rw [List.drop_zero, List.append_assoc, List.take_append_of_le_length (by rw [List.length_take]; omega), List.take_take, show min 3 3 = 3 from rfl, ← List.map_take, List.map_map]; rfl
        conv => whnf
        refine ⟨⟨[], js.take 3, rfl, .inr ⟨[], js.drop 3, ?_, rfl⟩⟩⟩
        show Tw.put (d + 1) (.mk [] (k :: ks)) p = _
        rw [hpn, ← hse]
        unfold splitK
        rw [if_neg h9']
theorem put_ok : FnOk Try.prog 71 cPutI := fn_rec (fun a => a.d) fun n hs x hx => fnX_at tab_ok (SOk.cons hs (SOk.cons gh_ok (SOk.cons gh_ok (SOk.cons gh_ok (SOk.cons isLeaf_ok (SOk.cons kid_ok (SOk.cons copyPairs_ok (SOk.cons insPair_ok (SOk.cons insTw_ok SOk.nil))))))))) mixed (fn := Try.f71) (code := body Try.f71) ⟨Try.func71, rfl, by kernel_rfl, by kernel_rfl, by kernel_rfl, by kernel_rfl⟩ (ev_put n x hx)
end Go.Vm
namespace Go.Vm
open Go.Proofs
set_option maxRecDepth 100000
set_option linter.unusedVariables false
set_option linter.unusedSimpArgs false

end Go.Vm
namespace Go.Vm
open Go.Proofs
set_option maxRecDepth 100000
set_option linter.unusedVariables false
set_option linter.unusedSimpArgs false

end Go.Vm
namespace Go.Vm
open Go.Proofs
set_option maxRecDepth 100000
set_option linter.unusedVariables false
set_option linter.unusedSimpArgs false

structure TPutR (N : List NodeX) (p : RngX) (N' : List NodeX) (ok : Bool) : Prop where
  yes : ∀ o, Vo o → N = layO o → kvOkB p = true → (insL p (allO o)).length ≤ 200 → ok = true ∧ N' = layO (some (putO o p))
  no : (∀ o, Vo o → N = layO o → kvOkB p = true → ¬ (insL p (allO o)).length ≤ 200) → ok = false ∧ N' = []
end Go.Vm
namespace Go.Vm
open Go.Proofs
set_option maxRecDepth 100000
set_option linter.unusedVariables false
set_option linter.unusedSimpArgs false

end Go.Vm
namespace Go.Vm
open Go.Proofs
set_option maxRecDepth 100000
set_option linter.unusedVariables false
set_option linter.unusedSimpArgs false

end Go.Vm
namespace Go.Vm
open Go.Proofs
set_option maxRecDepth 100000
set_option linter.unusedVariables false
set_option linter.unusedSimpArgs false

end Go.Vm
namespace Go.Vm
open Go.Proofs
set_option maxRecDepth 100000
set_option linter.unusedVariables false
set_option linter.unusedSimpArgs false

structure TDropR (N : List NodeX) (k : ByteArray) (N' : List NodeX) (ok : Bool) : Prop where
  yes : ∀ o, Vo o → N = layO o → keyOkB k = true → ok = true ∧ N' = layO (dropO o k)
  no : (TreeP N → keyOkB k = false) → ok = false ∧ N' = []
end Go.Vm
namespace Go.Vm
open Go.Proofs
set_option maxRecDepth 100000
set_option linter.unusedVariables false
set_option linter.unusedSimpArgs false

/-- Nodes that are small. -/
def nodeS (n : NodeX) : Prop := n.ps.length ≤ 5 ∧ n.keys.length ≤ 5 ∧ n.kids.length ≤ 5
mutual
theorem Shp.nodes : ∀ (x : Tw) {b : Bool} {d : Nat}, Shp b d x → ∀ (a : Nat), ∀ n ∈ x.lay a, n.ps.length ≤ 4 ∧ n.keys.length ≤ 4 ∧ n.kids.length ≤ 4
  | .mk ps ks, b, d, h, a, n, hn => by
    simp only [Tw.lay, List.mem_cons] at hn
    have h1 : ps.length ≤ 4 := by cases h <;> simp_all
    have h2 : ks.length ≤ 4 := by cases h <;> simp_all
    have h3 : ∀ k ∈ ks, ∃ b d, Shp b d k := by
      intro k hk
      cases h with
      | leaf => simp at hk
      | node _ _ h3 => exact ⟨_, _, h3 k hk⟩
    rcases hn with rfl | hn
    · refine ⟨h1, ?_, ?_⟩
      · simp; omega
      · rw [kidsAt_len]; exact h2
    · exact Shp.nodesL ks h3 _ n hn
theorem Shp.nodesL : ∀ (ks : List Tw), (∀ k ∈ ks, ∃ b d, Shp b d k) → ∀ (a : Nat), ∀ n ∈ Tw.lays ks a, n.ps.length ≤ 4 ∧ n.keys.length ≤ 4 ∧ n.kids.length ≤ 4
  | [], _, a, n, hn => by simp [Tw.lays] at hn
  | k :: ks, h, a, n, hn => by
    simp only [Tw.lays, List.mem_append] at hn
    rcases hn with hn | hn
    · obtain ⟨b, d, hk⟩ := h k (by simp)
      exact Shp.nodes k hk _ n hn
    · exact Shp.nodesL ks (fun k' hk' => h k' (by simp [hk'])) _ n hn
end
/-- A tree that is small, right or not. -/
structure SmallT (N : List NodeX) : Prop where
  len : N.length ≤ 201
  nodes : ∀ n ∈ N, nodeS n
theorem TreeP.small {N : List NodeX} (h : TreeP N) : N.length ≤ 200 ∧ ∀ n ∈ N, n.ps.length ≤ 4 ∧ n.keys.length ≤ 4 ∧ n.kids.length ≤ 4 := by
  obtain ⟨o, ho, rfl⟩ := h
  refine ⟨ho.lay_le, ?_⟩
  cases o with
  | none => intro n hn; simp [layO] at hn
  | some x =>
    obtain ⟨d, hd⟩ := ho.shp
    exact Shp.nodes x hd 0
theorem treeP_nil : TreeP [] := ⟨none, ⟨trivial, ⟨by simp [allO], fun p hp => by simp [allO] at hp, List.Pairwise.nil⟩⟩, rfl⟩
theorem TPutR.tree {N N' : List NodeX} {p : RngX} {ok : Bool} (h : TPutR N p N' ok) (hT : TreeP N) (hok : ok = true) : TreeP N' := by
  obtain ⟨o, ho, e⟩ := hT
  by_cases hk : kvOkB p = true ∧ (insL p (allO o)).length ≤ 200
  · obtain ⟨_, h2⟩ := h.yes o ho e hk.1 hk.2
    exact ⟨_, (ho.put hk.1 hk.2).1, h2⟩
  · have := (h.no fun o' ho' e' h1 h2 => by
      have : o' = o := layO_inj (by rw [← e', ← e])
      subst this
      exact hk ⟨h1, h2⟩).1
    rw [this] at hok; cases hok
theorem TDropR.tree {N N' : List NodeX} {k : ByteArray} {ok : Bool} (h : TDropR N k N' ok) (hT : TreeP N) : TreeP N' := by
  cases hk : keyOkB k with
  | true =>
    obtain ⟨o, ho, e⟩ := hT
    obtain ⟨_, h2⟩ := h.yes o ho e hk
    exact ⟨_, (ho.drop k).1, h2⟩
  | false =>
    rw [(h.no fun _ => hk).2]; exact treeP_nil
end Go.Vm
namespace Go.Vm
open Go.Proofs
set_option maxRecDepth 100000
set_option linter.unusedVariables false
set_option linter.unusedSimpArgs false

end Go.Vm
namespace Go.Vm
open Go.Proofs
set_option maxRecDepth 100000
set_option linter.unusedVariables false
set_option linter.unusedSimpArgs false

end Go.Vm
namespace Go.Vm
open Go.Proofs
set_option maxRecDepth 100000
set_option linter.unusedVariables false
set_option linter.unusedSimpArgs false

theorem SmallT.set {N : List NodeX} (h : SmallT N) {i : Nat} {y : NodeX} (hy : nodeS y) : SmallT (N.set i y) := ⟨by rw [List.length_set]; exact h.len, fun n hn => by
  rcases List.mem_or_eq_of_mem_set hn with hn | rfl
  · exact h.nodes n hn
  · exact hy⟩
end Go.Vm
namespace Go.Vm
open Go.Proofs
set_option maxRecDepth 100000
set_option linter.unusedVariables false
set_option linter.unusedSimpArgs false

/-- The tree of pairs that are put in one by one. -/
def ofO (l : List RngX) : Option Tw := l.foldl (fun o p => some (putO o p)) none
theorem ofO_snoc (l : List RngX) (p : RngX) : ofO (l ++ [p]) = some (putO (ofO l) p) := by simp [ofO]
theorem pairsOk_take {l : List RngX} (h : PairsOkP l) (i : Nat) : PairsOkP (l.take i) :=
  ⟨Nat.le_trans (take_len_le l i) h.len, fun p hp => h.ok p (List.mem_of_mem_take hp), h.srt.sublist (List.take_sublist i l)⟩
theorem ofO_step {l : List RngX} (h : PairsOkP l) {i : Nat} {p : RngX} (hp : l[i]? = some p) (ho : Vo (ofO (l.take i)) ∧ allO (ofO (l.take i)) = l.take i) :
    ofO (l.take (i + 1)) = some (putO (ofO (l.take i)) p) ∧ Vo (ofO (l.take (i + 1))) ∧ allO (ofO (l.take (i + 1))) = l.take (i + 1) ∧ insL p (allO (ofO (l.take i))) = l.take (i + 1) ∧ kvOkB p = true := by
  obtain ⟨h1, h2⟩ := ho
  have e : l.take (i + 1) = l.take i ++ [p] := by rw [List.take_add_one, hp]; rfl
  have hk := h.ok p (List.mem_of_getElem? hp)
  have hs := (pairsOk_take h (i + 1)).srt
  rw [e, Srt.app] at hs
  have hi : insL p (allO (ofO (l.take i))) = l.take (i + 1) := by
    rw [h2, e]; exact insL_end fun a ha => hs.2.2 a ha p (by simp)
  have hl : (insL p (allO (ofO (l.take i)))).length ≤ 200 := by rw [hi]; exact (pairsOk_take h (i + 1)).len
  obtain ⟨a, b⟩ := h1.put hk hl
  have e1 : ofO (l.take (i + 1)) = some (putO (ofO (l.take i)) p) := by rw [e, ofO_snoc]
  refine ⟨e1, ?_, ?_, hi, hk⟩
  · rw [e1]; exact a
  · rw [e1]; show (putO _ p).all = _; rw [b, hi]
theorem ofO_take {l : List RngX} (h : PairsOkP l) : ∀ i, i ≤ l.length → Vo (ofO (l.take i)) ∧ allO (ofO (l.take i)) = l.take i
  | 0, _ => ⟨⟨trivial, ⟨by simp [ofO, allO], fun p hp => by simp [ofO, allO] at hp, List.Pairwise.nil⟩⟩, by simp [ofO, allO]⟩
  | i + 1, hi => by
    obtain ⟨p, hp⟩ := getL (l := l) (j := i) (by omega)
    obtain ⟨_, a, b, _⟩ := ofO_step h hp (ofO_take h i (by omega))
    exact ⟨a, b⟩
theorem ofO_all {l : List RngX} (h : PairsOkP l) : Vo (ofO l) ∧ allO (ofO l) = l := by
  have := ofO_take h l.length (Nat.le_refl _)
  rwa [List.take_length] at this
structure TOfR (l : List RngX) (N : List NodeX) (ok : Bool) : Prop where
  yes : PairsOkP l → ok = true ∧ N = layO (ofO l)
  no : ¬ PairsOkP l → ok = false ∧ N = []
theorem TOfR.same {l : List RngX} {N N' : List NodeX} {ok ok' : Bool} (h : TOfR l N ok) (h' : TOfR l N' ok') : N = N' ∧ ok = ok' := by
  by_cases hp : PairsOkP l
  · obtain ⟨rfl, rfl⟩ := h.yes hp
    obtain ⟨rfl, rfl⟩ := h'.yes hp
    exact ⟨rfl, rfl⟩
  · obtain ⟨rfl, rfl⟩ := h.no hp
    obtain ⟨rfl, rfl⟩ := h'.no hp
    exact ⟨rfl, rfl⟩
theorem TOfR.tree {l : List RngX} {N : List NodeX} {ok : Bool} (h : TOfR l N ok) : TreeP N := by
  by_cases hp : PairsOkP l
  · obtain ⟨_, rfl⟩ := h.yes hp
    exact ⟨_, (ofO_all hp).1, rfl⟩
  · obtain ⟨_, rfl⟩ := h.no hp
    exact treeP_nil
theorem AllR.uniq {N : List NodeX} {l l' : List RngX} (h : AllR N l) (h' : AllR N l') : l = l' := by
  by_cases hT : TreeP N
  · obtain ⟨o, ho, e⟩ := hT
    exact (h.yes o ho e).trans (h'.yes o ho e).symm
  · exact (h.no hT).trans (h'.no hT).symm
theorem AllR.okk {N : List NodeX} {l : List RngX} (h : AllR N l) : PairsOkP l := by
  by_cases hT : TreeP N
  · obtain ⟨o, ho, e⟩ := hT
    rw [h.yes o ho e]; exact ho.ok
  · rw [h.no hT]; exact ⟨by simp, fun p hp => by simp at hp, List.Pairwise.nil⟩
end Go.Vm
namespace Go.Vm
open Go.Proofs
set_option maxRecDepth 100000
set_option linter.unusedVariables false
set_option linter.unusedSimpArgs false

theorem ev_pDrop : ∀ x, evFnX tab [] (pureC (RngX × ByteArray) [(.rd, true), (.rd, false)] [false] (fun x => [x.1.ds, [.box [.lf (.string x.2)]]]) (fun x => [[.lf (.bool (strEq x.1.lo x.2))]])) Try.f109 (body Try.f109) x := by
  rintro ⟨y, x⟩
  conv => whnf
  exact ⟨⟨rfl, rfl⟩⟩
theorem pDrop_ok : FnOk Try.prog 109 (pureC (RngX × ByteArray) [(.rd, true), (.rd, false)] [false] (fun x => [x.1.ds, [.box [.lf (.string x.2)]]]) (fun x => [[.lf (.bool (strEq x.1.lo x.2))]])) := fnOk_of fun x => fnX_at tab_ok (SOk.nil) mixed (fn := Try.f109) (code := body Try.f109) ⟨Try.func109, rfl, by kernel_rfl, by kernel_rfl, by kernel_rfl, by kernel_rfl⟩ (ev_pDrop x)
def dropD (x : ByteArray) : D := .fn 109 [.box [.lf (.string x)]]
def cIdxPT : Con := relC (List RngX × ByteArray) [(.rd, false), (.rd, false)] [false] (fun x => [[.row 2 RngX.ds x.1], [dropD x.2]])
  (fun x r => (r = [[.lf (.int .i64 (-1))]] ∧ ∀ y ∈ x.1, strEq y.lo x.2 = false) ∨ ∃ i : Nat, r = [[.lf (.int .i64 i)]] ∧ i < x.1.length ∧ (∀ j y, j < i → x.1[j]? = some y → strEq y.lo x.2 = false) ∧ ∃ y, x.1[i]? = some y ∧ strEq y.lo x.2 = true)
theorem ev_idxP : ∀ x, evFnX tab [(109, (pureC (RngX × ByteArray) [(.rd, true), (.rd, false)] [false] (fun x => [x.1.ds, [.box [.lf (.string x.2)]]]) (fun x => [[.lf (.bool (strEq x.1.lo x.2))]])))] cIdxPT Try.f118 (body Try.f118) x := by
  rintro ⟨l, x⟩
  conv => whnf
  intro h1
  replace h1 : l.length ≤ 9223372036854775807 := h1
  conv => whnf
  refine ⟨fun m s h => ∃ i : Nat, i ≤ l.length ∧ (∀ j y, j < i → l[j]? = some y → strEq y.lo x = false) ∧ m = l.length - i ∧ s = [(8, .lf (.int .i64 i)), (7, .lf (.int .i64 l.length)), (6, .sl 0 none), (1, .fn 109 [.pt 16 0 0]), (0, .sl 0 none)] ∧ h = [(16, some (.arr false 1 [[.lf (.string x)]])), (0, some (.row .lent 2 RngX.ds l))],
    l.length, [(16, 16), (0, 0)], [(8, .lf (.int .i64 0)), (7, .lf (.int .i64 l.length)), (6, .sl 0 none), (1, .fn 109 [.pt 16 0 0]), (0, .sl 0 none)], [(16, some (.arr false 1 [[.lf (.string x)]])), (0, some (.row .lent 2 RngX.ds l))], ⟨rfl, ⟨rfl, rfl, rfl, rfl, rfl, trivial⟩, by repeat' first | exact trivial | refine ⟨rfl, ?_⟩⟩, ⟨0, by omega, fun j y h => by omega, by omega, rfl, rfl⟩, ?_⟩
  rintro m _ _ ⟨i, g1, g2, rfl, rfl, rfl⟩
  conv => whnf
  refine br2 (fun h5 => ?_) (fun h5 => ?_)
  · have hi : i < l.length := by have := of_decide_eq_true h5; omega
    obtain ⟨y, hy⟩ : ∃ y, l[i]? = some y := ⟨_, List.getElem?_eq_getElem hi⟩
    have hy2 : nth l ((i : Nat) : Int).toNat = some y := by rw [nth_eq, Int.toNat_natCast]; exact hy
    conv => whnf
    refine ⟨Int.natCast_nonneg _, (show (i : Int) < (l.length : Int) by omega), ?_⟩
    conv => whnf
    refine ex2 y hy2 ?_
    conv => whnf
    refine ⟨(y, x), rfl, ?_⟩
    rintro _ _ ⟨rfl, rfl⟩
    conv => whnf
    refine br2 (fun h6 => ?_) (fun h6 => ?_)
    · conv => whnf
      exact ⟨⟨rfl, .inr ⟨i, rfl, hi, g2, y, hy, h6⟩⟩⟩
    · replace h6 : strEq y.lo x = false := h6
      conv => whnf
      refine ⟨l.length - (i + 1), [(16, 16), (0, 0)], [(8, .lf (.int .i64 ((i + 1 : Nat) : Int))), (7, .lf (.int .i64 l.length)), (6, .sl 0 none), (1, .fn 109 [.pt 16 0 0]), (0, .sl 0 none)], [(16, some (.arr false 1 [[.lf (.string x)]])), (0, some (.row .lent 2 RngX.ds l))], by omega, ⟨rfl, ⟨?_, rfl, rfl, rfl, rfl, trivial⟩, by repeat' first | exact trivial | refine ⟨rfl, ?_⟩⟩, i + 1, by omega, fun j z h7 hz => ?_, by omega, rfl, rfl⟩
      · show V.lf (.int .i64 (IntKind.i64.wrap ((i : Int) + 1))) = _
        rw [w64 (by omega) (by omega)]; rfl
      · rcases Nat.lt_or_ge j i with h7 | h7
        · exact g2 j z h7 hz
        · obtain rfl : j = i := by omega
          rw [hy] at hz; cases hz; exact h6
  · have hi : i = l.length := by have := of_decide_eq_false h5; omega
    conv => whnf
    refine ⟨⟨rfl, .inl ⟨rfl, fun y hy => ?_⟩⟩⟩
    obtain ⟨j, hj⟩ := List.getElem?_of_mem hy
    have hj' := (List.getElem?_eq_some_iff.1 hj).1
    exact g2 j y (by rw [hi]; exact hj') hj
theorem idxP_ok : FnOk Try.prog 118 cIdxPT := fnOk_of fun x => fnX_at tab_ok (SOk.cons pDrop_ok SOk.nil) mixed (fn := Try.f118) (code := body Try.f118) ⟨Try.func118, rfl, by kernel_rfl, by kernel_rfl, by kernel_rfl, by kernel_rfl⟩ (ev_idxP x)
/-- The rows of two halves: what is kept stands in front, what is not yet seen behind. -/
structure KeptP (p : RngX → Bool) (l l' : List RngX) (i j : Nat) : Prop where
  len : l'.length = l.length
  ij : i ≤ j
  jl : j ≤ l.length
  front : l'.take i = (l.take j).filter p
  back : l'.drop j = l.drop j
theorem KeptP.at {p : RngX → Bool} {l l' : List RngX} {i j : Nat} (h : KeptP p l l' i j) (hj : j < l.length) : ∃ y, l[j]? = some y ∧ l'[j]? = some y := by
  have e : l'[j]? = l[j]? := by
    have := congrArg (fun m => m[0]?) h.back
    simpa using this
  exact ⟨l[j], List.getElem?_eq_getElem hj, by rw [e]; exact List.getElem?_eq_getElem hj⟩
theorem KeptP.skip {p : RngX → Bool} {l l' : List RngX} {i j : Nat} (h : KeptP p l l' i j) {y : RngX} (hy : l[j]? = some y) (hp : p y = false) : KeptP p l l' i (j + 1) := by
  have hj := (List.getElem?_eq_some_iff.1 hy).1
  refine ⟨h.len, by have := h.ij; omega, by omega, ?_, ?_⟩
  · rw [h.front, List.take_add_one, List.filter_append, hy]
    simp [hp]
  · have := congrArg (List.drop 1) h.back
    simpa [List.drop_drop] using this
theorem KeptP.keep {p : RngX → Bool} {l l' : List RngX} {i j : Nat} (h : KeptP p l l' i j) {y : RngX} (hy : l[j]? = some y) (hp : p y = true) : KeptP p l (l'.set i y) (i + 1) (j + 1) := by
  have hj := (List.getElem?_eq_some_iff.1 hy).1
  have h1 := h.ij
  have h2 := h.len
  refine ⟨by simp [h.len], by omega, by omega, ?_, ?_⟩
  · rw [List.take_add_one, List.take_set_of_le (by omega), h.front, List.take_add_one, List.filter_append, hy]
    rw [List.getElem?_set_self (by omega)]
    simp [hp]
  · rw [List.drop_set_of_lt (by omega)]
    have := congrArg (List.drop 1) h.back
    simpa [List.drop_drop] using this
structure DelPX where
  l : List RngX
  t : ByteArray
  hl : l.length ≤ 2000000
def DelPX.out (x : DelPX) : List RngX := x.l.filter fun y => !strEq y.lo x.t
def rngZ : RngX := ⟨⟨#[]⟩, ⟨#[]⟩⟩
theorem ev_delP : ∀ x, evFnX tab [(118, cIdxPT), (109, (pureC (RngX × ByteArray) [(.rd, true), (.rd, false)] [false] (fun x => [x.1.ds, [.box [.lf (.string x.2)]]]) (fun x => [[.lf (.bool (strEq x.1.lo x.2))]])))] (pureC DelPX [(.take, false), (.rd, false)] [false] (fun x => [[.row 2 RngX.ds x.l], [dropD x.t]]) (fun x => [[.row 2 RngX.ds x.out]])) Try.f103 (body Try.f103) x := by
  rintro ⟨l, x, hl⟩
  conv => whnf
  refine ⟨(l, x), rfl, ?_⟩
  rintro _ _ ⟨rfl, h0⟩
  rcases h0 with ⟨rfl, h0⟩ | ⟨i0, rfl, h0, h1, y0, h2, h3⟩
  · conv => whnf
    refine ⟨⟨rfl, ?_⟩⟩
    show [[D.row 2 RngX.ds l]] = [[D.row 2 RngX.ds (l.filter fun y => !strEq y.lo x)]]
    rw [List.filter_eq_self.2 fun y hy => by rw [h0 y hy]; rfl]
  conv => whnf
  replace h0 : i0 < l.length := h0
  have hw : IntKind.i64.wrap ((i0 : Int) + 1) = ((i0 + 1 : Nat) : Int) := by rw [w64 (by omega) (by omega)]; rfl
  let p : RngX → Bool := fun y => !strEq y.lo x
  replace h1 : ∀ j y, j < i0 → l[j]? = some y → strEq y.lo x = false := h1
  replace h2 : l[i0]? = some y0 := h2
  replace h3 : strEq y0.lo x = true := h3
  have hK0 : KeptP p l l i0 (i0 + 1) := by
    refine ⟨rfl, by omega, by omega, ?_, rfl⟩
    rw [List.take_add_one, List.filter_append, h2]
    have e1 : (l.take i0).filter p = l.take i0 := List.filter_eq_self.2 fun y hy => by
      obtain ⟨j, hj⟩ := List.getElem?_of_mem hy
      rw [List.getElem?_take] at hj
      split at hj
      · rename_i hlt
        show (!strEq y.lo x) = true
        rw [h1 j y hlt hj]; rfl
      · cases hj
    have e2 : p y0 = false := by show (!strEq y0.lo x) = false; rw [h3]; rfl
    rw [e1]; simp [e2]
  refine ⟨fun m s h => ∃ (i j : Nat) (l' : List RngX), KeptP p l l' i j ∧ m = l.length - j ∧ s = [(6, .lf (.int .i64 j)), (5, .lf (.int .i64 i)), (1, .fn 109 [.pt 16 0 0]), (0, .sl 0 none)] ∧ h = [(16, some (.arr false 1 [[.lf (.string x)]])), (0, some (.row .own 2 RngX.ds l'))],
    l.length - (i0 + 1), [(16, 16), (0, 0)], [(6, .lf (.int .i64 ((i0 + 1 : Nat) : Int))), (5, .lf (.int .i64 i0)), (1, .fn 109 [.pt 16 0 0]), (0, .sl 0 none)], [(16, some (.arr false 1 [[.lf (.string x)]])), (0, some (.row .own 2 RngX.ds l))],
    ⟨rfl, ⟨by show V.lf (.int .i64 (IntKind.i64.wrap ((i0 : Int) + 1))) = _; rw [hw], rfl, rfl, rfl, trivial⟩, rfl, rfl, trivial⟩, ⟨i0, i0 + 1, l, hK0, rfl, rfl, rfl⟩, ?_⟩
  rintro m _ _ ⟨i, j, l', hK, rfl, rfl, rfl⟩
  conv => whnf
  intro h5
  conv => whnf
  refine br2 (fun h6 => ?_) (fun h6 => ?_)
  · have hj : j < l.length := by have := of_decide_eq_true h6; have := hK.len; omega
    obtain ⟨y, hy, hy'⟩ := hK.at hj
    have hy2 : nth l' ((j : Nat) : Int).toNat = some y := by rw [nth_eq, Int.toNat_natCast]; exact hy'
    conv => whnf
    refine ⟨Int.natCast_nonneg _, (show (j : Int) < (l'.length : Int) by have := hK.len; omega), ?_⟩
    conv => whnf
    refine ex2 y hy2 ?_
    conv => whnf
    refine ⟨(y, x), rfl, ?_⟩
    rintro _ _ ⟨rfl, rfl⟩
    conv => whnf
    refine br2 (fun h7 => ?_) (fun h7 => ?_)
    · have hp : p y = true := h7
      have hij := hK.ij
      have hlen := hK.len
      obtain ⟨z, hz⟩ : ∃ z, l'[i]? = some z := ⟨_, List.getElem?_eq_getElem (by omega)⟩
      have hz2 : nth l' ((i : Nat) : Int).toNat = some z := by rw [nth_eq, Int.toNat_natCast]; exact hz
      conv => whnf
      refine ⟨Int.natCast_nonneg _, (show (i : Int) < (l'.length : Int) by omega), ?_⟩
      conv => whnf
      refine ex2 z hz2 ?_
      conv => whnf
      refine ⟨y, rfl, ?_⟩
      conv => whnf
      refine ⟨l.length - (j + 1), [(16, 16), (0, 0)], [(6, .lf (.int .i64 ((j + 1 : Nat) : Int))), (5, .lf (.int .i64 ((i + 1 : Nat) : Int))), (1, .fn 109 [.pt 16 0 0]), (0, .sl 0 none)], [(16, some (.arr false 1 [[.lf (.string x)]])), (0, some (.row .own 2 RngX.ds (l'.set i y)))],
        by omega, ⟨rfl, ⟨?_, ?_, rfl, rfl, trivial⟩, rfl, rfl, trivial⟩, i + 1, j + 1, l'.set i y, hK.keep hy hp, rfl, rfl, rfl⟩
      · show V.lf (.int .i64 (IntKind.i64.wrap ((j : Int) + 1))) = _
        rw [w64 (by omega) (by omega)]; rfl
      · show V.lf (.int .i64 (IntKind.i64.wrap ((i : Int) + 1))) = _
        rw [w64 (by omega) (by omega)]; rfl
    · have hp : p y = false := h7
      conv => whnf
      refine ⟨l.length - (j + 1), [(16, 16), (0, 0)], [(6, .lf (.int .i64 ((j + 1 : Nat) : Int))), (5, .lf (.int .i64 i)), (1, .fn 109 [.pt 16 0 0]), (0, .sl 0 none)], [(16, some (.arr false 1 [[.lf (.string x)]])), (0, some (.row .own 2 RngX.ds l'))],
        by omega, ⟨rfl, ⟨?_, rfl, rfl, rfl, trivial⟩, rfl, rfl, trivial⟩, i, j + 1, l', hK.skip hy hp, rfl, rfl, rfl⟩
      show V.lf (.int .i64 (IntKind.i64.wrap ((j : Int) + 1))) = _
      rw [w64 (by omega) (by omega)]; rfl
  · have hj : j = l.length := by have := of_decide_eq_false h6; have := hK.len; have := hK.jl; omega
    subst hj
    have hij := hK.ij
    have hlen := hK.len
    conv => whnf
    refine ⟨Int.natCast_nonneg _, (show (i : Int) ≤ (l'.length : Int) by omega), Int.le_refl _, ?_⟩
    conv => whnf
    refine ⟨rngZ, rfl, ?_⟩
    conv => whnf
    refine ⟨Int.le_refl _, Int.natCast_nonneg _, ?_, ?_⟩
    · show (i : Int) ≤ ((l'.take i ++ List.replicate ((l'.length : Int) - (i : Int)).toNat rngZ ++ l'.drop (i + ((l'.length : Int) - (i : Int)).toNat)).length : Int)
      simp; omega
    conv => whnf
    refine ⟨RngX, RngX.ds, _, fun _ => rfl, rfl, ?_⟩
    conv => whnf
    refine ⟨⟨rfl, ?_⟩⟩
    show [[D.row 2 RngX.ds (((l'.take i ++ List.replicate ((l'.length : Int) - (i : Int)).toNat rngZ ++ l'.drop (i + ((l'.length : Int) - (i : Int)).toNat)).drop 0).take ((i : Int) - 0).toNat)]] = [[D.row 2 RngX.ds (l.filter p)]]
    congr 3
    have := hK.front
    rw [List.take_length] at this
    rw [← this, List.drop_zero, List.append_assoc, List.take_append_of_le_length (by simp; omega)]
    simp [List.take_take]
theorem delP_ok : FnOk Try.prog 103 (pureC DelPX [(.take, false), (.rd, false)] [false] (fun x => [[.row 2 RngX.ds x.l], [dropD x.t]]) (fun x => [[.row 2 RngX.ds x.out]])) := fnOk_of fun x => fnX_at tab_ok (SOk.cons idxP_ok (SOk.cons pDrop_ok SOk.nil)) mixed (fn := Try.f103) (code := body Try.f103) ⟨Try.func103, rfl, by kernel_rfl, by kernel_rfl, by kernel_rfl, by kernel_rfl⟩ (ev_delP x)

theorem eqK_str (a b : ByteArray) : eqK a b = strEq a b := b_iff.2 (eqK_iff.trans strEq_iff.symm)
theorem DelPX.eq (x : DelPX) : x.out = delL x.t x.l := by
  unfold DelPX.out delL
  congr 1
  funext y
  rw [eqK_str]
theorem ev_sizeTw : ∀ x, evFnX tab [] (pureC (Nat × Tw) [(.rd, false)] [false] (fun t => [twE (t.1 + 1) t.2]) (fun t => [[.lf (.int .i64 (IntKind.i64.wrap (t.2.ps.length + t.2.ks.length)))]])) Try.f84 (body Try.f84) x := by
  rintro ⟨n, ⟨ps, ks⟩⟩
  conv => whnf
  intro _
  conv => whnf
  intro _
  conv => whnf
  exact ⟨⟨rfl, rfl⟩⟩
theorem sizeTw_ok : FnOk Try.prog 84 (pureC (Nat × Tw) [(.rd, false)] [false] (fun t => [twE (t.1 + 1) t.2]) (fun t => [[.lf (.int .i64 (IntKind.i64.wrap (t.2.ps.length + t.2.ks.length)))]])) := fnOk_of fun x => fnX_at tab_ok (SOk.nil) mixed (fn := Try.f84) (code := body Try.f84) ⟨Try.func84, rfl, by kernel_rfl, by kernel_rfl, by kernel_rfl, by kernel_rfl⟩ (ev_sizeTw x)
end Go.Vm
namespace Go.Vm
open Go.Proofs Go.RowKit Go.Lib Go.Sort
set_option linter.unusedVariables false
set_option linter.unusedSimpArgs false
set_option maxHeartbeats 4000000 in
set_option maxRecDepth 1000000 in
theorem del1_walk (b off n c i : Nat) (cs : List Value) (w : World) (hi : i < n) (hnc : n ≤ c) (hcl : cs.length = n)
    (hcs : ∀ j v, cs[j]? = some v → w.cell? ⟨b, off + j, none⟩ = some v) (hfz : ∀ j, j < n → w.frozen? ⟨b, off + j, none⟩ = false) (h1c : ∀ v ∈ cs, v.oneCell' = true) :
    Calls Try.prog 119 #[.slice (some ⟨b, off, none⟩) n c, .int .i64 i, .int .i64 ((i : Int) + 1)] w fun e w' =>
      e = .returned (.slice (some ⟨b, off, none⟩) (n - 1) c) ∧ w' = (w.drew.setCells b (off + i) (cs.drop (i + 1))).setCells b (off + (n - 1)) [.pointer none] := by
  have t105 := Try.underlying105
  have u105 := run_underlying (P := Try.prog) t105
  have t3 := Try.underlying3
  have u3 := run_underlying (P := Try.prog) t3
  have hsz : (Try.prog.info? 61).map (·.size) = some 1 := by kernel_rfl
  have hze : (Try.prog.info? 61).bind (·.zero) = some (.pointer none) := by kernel_rfl
  obtain ⟨i0, hi0, hz1, hz0⟩ : ∃ i0, Try.prog.info? 61 = some i0 ∧ i0.size = 1 ∧ i0.zero = some (.pointer none) := by
    cases hq : Try.prog.info? 61 with
    | none => rw [hq] at hsz; cases hsz
    | some i0 => rw [hq] at hsz hze; exact ⟨i0, rfl, by simpa using hsz, by simpa using hze⟩
  have v61 : ∀ w, (zeroValue 61).run Try.prog w = .ok (.pointer none) w := fun w => by simp [zeroValue, typeInfo, hi0, hz0]
  obtain ⟨news, hnews⟩ : ∃ news, news = cs.drop (i + 1) := ⟨_, rfl⟩
  have hlen : news.length = n - (i + 1) := by rw [hnews, List.length_drop, hcl]
  obtain ⟨A, hA, hsrc⟩ : ∃ A : Addr, (if c = i + 1 then some (⟨b, off, none⟩ : Addr) else some ⟨b, off + (i + 1), none⟩) = some A ∧ Hid (∀ t u, news[t]? = some u → w.drew.cell? (A.add t) = some u) := by
    by_cases h : c = i + 1
    · refine ⟨⟨b, off, none⟩, by simp [h], fun t u hu => ?_⟩
      have h0 : news.length = 0 := by omega
      rw [List.length_eq_zero_iff.1 h0] at hu
      simp at hu
    · refine ⟨⟨b, off + (i + 1), none⟩, by simp [h], fun t u hu => ?_⟩
      rw [hnews, List.getElem?_drop] at hu
      rw [Addr.add_lit, Nat.add_assoc]
      exact hcs _ u hu
  have s1 : Hid (news.length = (n - (i + 1)) * 1) := by rw [Nat.mul_one]; exact hlen
  have s2 : Hid (∀ u ∈ news, u.oneCell' = true) := fun u hu => h1c u (by rw [hnews] at hu; exact List.mem_of_mem_drop hu)
  have hsome : ∀ t, t < n → (w.cell? ⟨b, off + t, none⟩).isSome = true := fun t ht => by rw [hcs t cs[t] (List.getElem?_eq_getElem (by omega))]; rfl
  have s3 : Hid (∀ t, t < news.length → (w.drew.cell? ⟨b, off + i * 1 + t, none⟩).isSome = true ∧ w.drew.frozen? ⟨b, off + i * 1 + t, none⟩ = false) := by
    intro t ht
    rw [hlen] at ht
    rw [Nat.mul_one, Nat.add_assoc]
    exact ⟨hsome (i + t) (by omega), hfz (i + t) (by omega)⟩
  obtain ⟨W1, hW1⟩ : ∃ W1, W1 = w.drew.setCells b (off + i * 1) news := ⟨_, rfl⟩
  have hclr : ∀ ty, (Builtin.clear_ #[105] ty #[.slice (some ⟨b, off + (i + (n - (i + 1))), none⟩) (n - (i + (n - (i + 1)))) (c - (i + (n - (i + 1))))]).run Try.prog W1 = .ok (.tuple #[]) (W1.setCells b (off + (i + (n - (i + 1)))) (List.replicate (n - (i + (n - (i + 1)))) (.pointer none))) :=
    fun ty => Lib.run_clear_slice W1 _ _ ty _ t105 v61 rfl rfl b (off + (i + (n - (i + 1)))) _ _ (by omega) (fun t ht => by
      rw [hW1, show off + (i + (n - (i + 1))) + t = off + (n - 1) by omega]
      exact isSome_setC b _ _ _ (fun j hj => by rw [hlen] at hj; rw [Nat.mul_one, Nat.add_assoc]; exact hsome (i + j) (by omega)) _ (hsome (n - 1) (by omega))) (fun t ht => by
      rw [hW1, World.frozen?_setCells, show off + (i + (n - (i + 1))) + t = off + (n - 1) by omega]
      exact hfz (n - 1) (by omega))
  have hW : Hid (W1 = w.drew.setCells b (off + i * 1) news) := hW1
  have hX : Aside (news = cs.drop (i + 1)) := hnews
  have hic : i ≤ c := by omega
  have hjc : i + 1 ≤ c := by omega
  have hij : ¬ ((i : Int) = (i : Int) + (1 : Int)) := by omega
  have hb1 : (0 : Int) ≤ (i : Int) + (1 : Int) := by omega
  have hb2 : (i : Int) + (1 : Int) ≤ (n : Int) := by omega
  have hb3 : (i : Int) ≤ (i : Int) + (1 : Int) := by omega
  have htn : ((i : Int) + (1 : Int)).toNat = i + 1 := by omega
  have mixed : Try.prog.follows Departure.mixedOrders = true := by kernel_rfl
  clear hW1 hcs hnews hlen hsome hfz h1c
  go_enter Try.func119, Try.ntmps119
  go_wp2_with fail
  go_region_law_o (refine step_append_room rfl (.tmp 22) (.tmp 25) 105 rfl 61 i0 1 t105 hi0 hz1 b off i c (by simp [Act.eval, Act.put]) A (n - (i + 1)) (c - (i + 1)) news (by simp [Act.eval, Act.put]) s1.out hsrc.out s2.out (by omega) s3.out ?_; rw [← hW.out])
  go_wp2
  go_ret
  refine ⟨by rw [show n - 1 = i + (n - (i + 1)) by omega]; rfl, ?_⟩
  rw [hW.out, hX.out, Nat.mul_one, show n - (i + (n - (i + 1))) = 1 by omega, show i + (n - (i + 1)) = n - 1 by omega]; rfl
end Go.Vm
namespace Go.Vm
open Go.Proofs Go.RowKit
set_option maxRecDepth 100000
set_option linter.unusedVariables false
set_option linter.unusedSimpArgs false

theorem args_del {w : World} {R Kp : Nat → Prop} {d1 : D} {a b : Value} : ∀ {args : List Value} {Fs : List (Nat → Prop)}, ArgsR w R Kp [(.take, false), (.rd, false), (.rd, false)] [[d1], [.lf a], [.lf b]] args Fs →
    ∃ v1 F1 F2 F3, args = [v1, a, b] ∧ Fs = [F1, F2, F3] ∧ Own w Kp F1 v1 d1 ∧ (∀ x, ¬ F2 x) ∧ (∀ x, ¬ F3 x)
  | [x, y, z], [F, G, H], h => by
    obtain ⟨⟨cs, hc, hp⟩, ⟨cs', hc', hp'⟩, ⟨cs2, hc2, hp2⟩, _⟩ := h
    have h1 : Own w Kp F x d1 := part1 hc hp
    have h2 : Ro w R y (.lf a) ∧ ∀ x, ¬ G x := part1 (D1 := ArgD .rd w R Kp) hc' hp'
    have h3 : Ro w R z (.lf b) ∧ ∀ x, ¬ H x := part1 (D1 := ArgD .rd w R Kp) hc2 hp2
    obtain ⟨e1, e2⟩ := h2
    obtain ⟨e3, e4⟩ := h3
    obtain rfl : y = a := (Ro.lf_inv e1).1
    obtain rfl : z = b := (Ro.lf_inv e3).1
    exact ⟨x, F, G, H, rfl, rfl, h1, e2, e4⟩
  | [], _, h => h.elim
  | [_], [], h => h.elim
  | [_], _ :: _, h => h.2.elim
  | _ :: _ :: _, [], h => h.elim
  | [_, _], [_], h => h.2.elim
  | [_, _], _ :: _ :: _, h => h.2.2.elim
  | _ :: _ :: _ :: _, [_], h => h.2.elim
  | _ :: _ :: _ :: _, [_, _], h => h.2.2.elim
  | _ :: _ :: _ :: _ :: _, _ :: _ :: _ :: _, h => h.2.2.2.elim
  | [_, _, _], _ :: _ :: _ :: _ :: _, h => h.2.2.2.elim
/-- A node, or one whose kids are gone. -/
inductive Kid where
  | live (x : Tw)
  | gone (ps : List RngX) (n : Nat)
def kE (n : Nat) : Kid → List D
  | .live x => twE n x
  | .gone ps m => [.box [.row 2 RngX.ds ps, .row 1 (fun _ : Unit => [.dead]) (List.replicate m ())]]
theorem kE_len (n : Nat) (x : Kid) : (kE n x).length = 1 := by cases x <;> first | rfl | exact twE_len _ _
structure DelTX where
  n : Nat
  l : List Kid
  i : Nat
  l' : List Tw
  hi : i < l.length
  he : l'.map (twE n) = (l.take i ++ l.drop (i + 1)).map (kE n)
  hl : l.length ≤ 1000000
def cDelTw : Con := { X := DelTX, params := [(.take, false), (.rd, false), (.rd, false)], res := [false], resOwn := true, ins := fun x => [[.row 1 (kE x.n) x.l], [.lf (.int .i64 x.i)], [.lf (.int .i64 ((x.i + 1 : Nat) : Int))]], post := fun x outs r => outs = [] ∧ r = [[.row 1 (twE x.n) x.l']] }
def delV {β : Type _} (i : Nat) (vals : Nat → β) (j : Nat) : β := if j < i then vals j else vals (j + 1)
theorem delTw_full : FnOk Try.prog 119 cDelTw := by
  intro x w args R Kp Fs ha hD hcl hK hR
  have hlt := ha.lt
  obtain ⟨v1, F1, F2, F3, rfl, rfl, o1, o2, o3⟩ := args_del ha
  obtain ⟨n, l, i, l', hi, he, hl⟩ := x
  replace hi : i < l.length := hi
  replace he : l'.map (twE n) = (l.take i ++ l.drop (i + 1)).map (kE n) := he
  replace hl : l.length ≤ 1000000 := hl
  replace o1 : Own w Kp F1 v1 (.row 1 (kE n) l) := o1
  obtain ⟨_, hm, h | ⟨b, o, c, rfl, hc, hcap, hb, vals, hv, G, g1, g2, g3, g4⟩⟩ := o1.row_inv
  · rw [h.1] at hi; simp at hi
  have any1 : ∀ y, F1 y → AnyF [F1, F2, F3] y := fun y h => ⟨F1, by simp, h⟩
  have b1 : F1 b := (g4 b).2 (.inl rfl)
  have G1 : ∀ i f x, i < l.length → f < 1 → G i f x → F1 x := fun i f x h1 h2 h => (g4 x).2 (.inr ⟨i, f, h1, h2, h⟩)
  have hKb : ∀ y, Kp y → y ≠ b := by rintro y hy rfl; exact (hcl _ (any1 _ b1)).1 (hK _ hy)
  have hcs : ∀ j v, (flatV 1 l.length vals)[j]? = some v → w.cell? ⟨b, o + j, none⟩ = some v := flat_cells hv
  have h1c : ∀ v ∈ flatV 1 l.length vals, v.oneCell' = true := flat_mem fun i f hi hf => (g1 i f hi hf).one
  have hlen : (flatV 1 l.length vals).length = l.length := by rw [flatV_len, Nat.mul_one]
  refine .inl ⟨Try.f119, by kernel_rfl, by kernel_rfl, by kernel_rfl, (del1_walk b o l.length c i _ w hi hc hlen hcs (fun j hj => (hcap j (by omega)).2) h1c).mono fun e w' ⟨he', hw'⟩ => ⟨_, he', ?_⟩⟩
  have hsh : Shape w w' := by rw [hw']; exact ((Shape.drew w).trans (setCells_shape b _ _ _)).trans (setCells_shape b _ _ _)
  have hblk : ∀ y, y ≠ b → w'.heap[y]? = w.heap[y]? := fun y hy => by rw [hw', setCells_blk _ _ _ hy, setCells_blk _ _ _ hy]; rfl
  have hd : ((flatV 1 l.length vals).drop (i + 1)).length = l.length - (i + 1) := by rw [List.length_drop, hlen]
  have hl2 : (l.take i ++ l.drop (i + 1)).length = l.length - 1 := by rw [List.length_append, List.length_take, List.length_drop]; omega
  have hdat : ∀ j f, j < l.length - 1 → dat (kE n) (l.take i ++ l.drop (i + 1)) j f = delV i (fun j => dat (kE n) l j f) j := fun j f hj => by
    unfold delV
    split
    · unfold dat; rw [List.getElem?_append_left (by rw [List.length_take]; omega), List.getElem?_take, if_pos (by assumption)]
    · unfold dat; rw [List.getElem?_append_right (by rw [List.length_take]; omega), List.length_take, List.getElem?_drop, show i + 1 + (j - min i l.length) = j + 1 by omega]
  have own : Own w' Kp (fun x => x = b ∨ ∃ j f, j < l.length - 1 ∧ f < 1 ∧ delV i (fun j => G j f) j x) (.slice (some ⟨b, o, none⟩) (l.length - 1) c) (.row 1 (kE n) (l.take i ++ l.drop (i + 1))) := by
    refine .row (fun j f => delV i (fun j => vals j f) j) (fun j f => delV i (fun j => G j f) j) hl2.symm (Nat.lt_of_lt_of_le hb hsh.size) (by omega) (by omega) (fun j hj => ⟨hsh.cell b _ hb (hcap j hj).1, by rw [hsh.fr b _ hb]; exact (hcap j hj).2⟩) (kE_len n) (fun j f hj hf => ?_) (fun j f hj hf => ?_) (fun j f k g hj hf hk hg hne x => ?_) (fun j f hj hf => ?_) fun x => Iff.rfl
    · obtain rfl : f = 0 := by omega
      have hout : w'.cell? ⟨b, o + (j * 1 + 0), none⟩ = (w.drew.setCells b (o + i) ((flatV 1 l.length vals).drop (i + 1))).cell? ⟨b, o + (j * 1 + 0), none⟩ := by
        rw [hw', out_setC (by simp; omega)]
      rw [hout]
      unfold delV
      split
      · rw [out_setC (by omega)]
        exact hv j 0 (by omega) hf
      · rw [show o + (j * 1 + 0) = o + i + (j - i) by omega]
        refine in_setC (fun q hq => ?_) ?_
        · rw [hd] at hq
          have := hv (i + q) 0 (by omega) hf
          show (w.cell? ⟨b, o + i + q, none⟩).isSome = true
          rw [show o + i + q = o + ((i + q) * 1 + 0) by omega, this]; rfl
        · have := flatV_get (sz := 1) (n := l.length) (vals := vals) (i := j + 1) (f := 0) (by omega) hf
          rw [List.getElem?_drop, show i + 1 + (j - i) = (j + 1) * 1 + 0 by omega]
          exact this
    · have fr : ∀ q, q < l.length → ∀ x, G q f x → w'.heap[x]? = w.heap[x]? := fun q hq x hx => hblk x (by rintro rfl; exact g3 q f hq hf hx)
      have frK : ∀ x, Kp x → w'.heap[x]? = w.heap[x]? := fun x hx => hblk x (hKb x hx)
      rw [hdat j f hj]
      unfold delV
      split
      · exact (g1 j f (by omega) hf).frame (fr j (by omega)) frK
      · exact (g1 (j + 1) f (by omega) hf).frame (fr (j + 1) (by omega)) frK
    · unfold delV
      split
      · split
        · exact g2 j f k g (by omega) hf (by omega) hg hne x
        · exact g2 j f (k + 1) g (by omega) hf (by omega) hg (.inl (by omega)) x
      · split
        · exact g2 (j + 1) f k g (by omega) hf (by omega) hg (.inl (by omega)) x
        · exact g2 (j + 1) f (k + 1) g (by omega) hf (by omega) hg (by omega) x
    · unfold delV
      split
      · exact g3 j f (by omega) hf
      · exact g3 (j + 1) f (by omega) hf
  have src : ∀ y, (y = b ∨ ∃ j f, j < l.length - 1 ∧ f < 1 ∧ delV i (fun j => G j f) j y) → AnyF [F1, F2, F3] y := by
    rintro y (rfl | ⟨j, f, hj, hf, h⟩)
    · exact any1 _ b1
    · unfold delV at h
      split at h
      · exact any1 _ (G1 j f y (by omega) hf h)
      · exact any1 _ (G1 (j + 1) f y (by omega) hf h)
  exact out_one rfl rfl rfl ⟨rfl, rfl⟩ hsh (fun y hy hn => hblk y (by rintro rfl; exact hn (any1 _ b1))) (own.recode (twE_len n) he) (fun y hy => .inr (src y hy)) fun y hy => (hcl y (src y hy)).2.shape hsh (hlt y (src y hy))
theorem delTw_ok : FnOk Try.prog 119 cDelTw := delTw_full
end Go.Vm
namespace Go.Vm
open Go.Proofs
set_option maxRecDepth 100000
set_option linter.unusedVariables false
set_option linter.unusedSimpArgs false

structure MendX where
  m : Nat
  ks : List Tw
  i : Nat
  d : Nat
  k : Tw
  hK : Kds d i ks
  h2 : 2 ≤ ks.length
  h4 : ks.length ≤ 4
  hk : ks[i]? = some k
  hf : k.few = true
def cMend : Con := { X := MendX, params := [(.mut, false), (.rd, false)], res := [], resOwn := true, ins := fun a => [twE (a.m + 2) (.mk [] a.ks), [.lf (.int .i64 a.i)]], post := fun a outs r => outs = [twE (a.m + 2) (.mk [] (mendL a.ks a.i))] ∧ r = [] }
theorem Low.cases {d : Nat} {f s : Tw} (hf : Low d f) (hs : Low d s) : (∃ p q, f = .mk p [] ∧ s = .mk q [] ∧ p.length ≤ 4 ∧ q.length ≤ 4) ∨ ∃ a b, f = .mk [] a ∧ s = .mk [] b ∧ 1 ≤ a.length ∧ a.length ≤ 4 ∧ 1 ≤ b.length ∧ b.length ≤ 4 := by
  cases hf with
  | leaf a2 =>
    cases hs with
    | leaf b2 => exact .inl ⟨_, _, rfl, rfl, a2, b2⟩
    | node b1 b2 b3 => exfalso; have := (b3 _ (List.getElem_mem (show 0 < _ by omega))).pos; omega
  | node a1 a2 a3 =>
    cases hs with
    | leaf b2 => exfalso; have := (a3 _ (List.getElem_mem (show 0 < _ by omega))).pos; omega
    | node b1 b2 b3 => exact .inr ⟨_, _, rfl, rfl, a1, a2, b1, b2⟩
theorem resplit_l1 {p q : List RngX} (h : p.length + q.length ≤ 4) : resplit (.mk p []) (.mk q []) = [.mk (p ++ q) []] := by
  unfold resplit
  simp only [Tw.ps, Tw.ks, List.append_nil, List.length_nil, Nat.add_zero, Tw.join]
  rw [if_pos (by rw [List.length_append]; exact h)]
theorem resplit_l2 {p q : List RngX} (h : ¬ p.length + q.length ≤ 4) : resplit (.mk p []) (.mk q []) = [.mk ((p ++ q).take 3) [], .mk ((p ++ q).drop 3) []] := by
  unfold resplit
  simp only [Tw.ps, Tw.ks, List.append_nil, List.length_nil, Nat.add_zero, Tw.join]
  rw [if_neg (by rw [List.length_append]; exact h), if_pos trivial]
theorem resplit_n1 {f s : List Tw} (h : f.length + s.length ≤ 4) : resplit (.mk [] f) (.mk [] s) = [.mk [] (f ++ s)] := by
  unfold resplit
  simp only [Tw.ps, Tw.ks, List.append_nil, List.length_nil, Nat.zero_add, Tw.join]
  rw [if_pos (by rw [List.length_append]; exact h)]
theorem resplit_n2 {f s : List Tw} (h : ¬ f.length + s.length ≤ 4) : resplit (.mk [] f) (.mk [] s) = [.mk [] ((f ++ s).take 3), .mk [] ((f ++ s).drop 3)] := by
  unfold resplit
  simp only [Tw.ps, Tw.ks, List.append_nil, List.length_nil, Nat.zero_add, Tw.join]
  rw [if_neg (by rw [List.length_append]; exact h), if_neg (by rw [List.length_append]; omega)]
theorem cut_some {m : Nat} (js : List Tw) (h : 3 ≤ js.length) : (js.take 3).map (twE m) = ((((js.map some).take 3 ++ List.replicate (((js.map some).length : Int) - 3).toNat none ++ (js.map some).drop (3 + (((js.map some).length : Int) - 3).toNat)).drop 0).take 3).map (twOE m) := by
  rw [List.drop_zero, List.append_assoc, List.take_append_of_le_length (by rw [List.length_take, List.length_map]; omega), List.take_take, show min 3 3 = 3 from rfl, ← List.map_take, List.map_map]; rfl
/-- Where two siblings stand. -/
def MPos (ks : List Tw) (i : Nat) (f s : Tw) : Prop :=
  (i = 0 ∧ ks = [f, s]) ∨ (i = 1 ∧ ks = [f, s]) ∨ (∃ x, i = 0 ∧ ks = [f, s, x]) ∨ (∃ x, i = 1 ∧ ks = [f, s, x]) ∨ (∃ x, i = 2 ∧ ks = [x, f, s]) ∨ (∃ x y, i = 0 ∧ ks = [f, s, x, y]) ∨ (∃ x y, i = 1 ∧ ks = [f, s, x, y]) ∨ (∃ x y, i = 2 ∧ ks = [x, f, s, y]) ∨ ∃ x y, i = 3 ∧ ks = [x, y, f, s]
theorem mpos {ks : List Tw} {i : Nat} {f s : Tw} (h1 : ks[i - 1]? = some f) (h2 : ks[i - 1 + 1]? = some s) (h4 : ks.length ≤ 4) : MPos ks i f s := by
  unfold MPos
  match ks, i, h1, h2, h4 with
  | [_, _], 0, h1, h2, _ => cases h1; cases h2; exact .inl ⟨rfl, rfl⟩
  | [_, _], 1, h1, h2, _ => cases h1; cases h2; exact .inr (.inl ⟨rfl, rfl⟩)
  | [_, _, x], 0, h1, h2, _ => cases h1; cases h2; exact .inr (.inr (.inl ⟨x, rfl, rfl⟩))
  | [_, _, x], 1, h1, h2, _ => cases h1; cases h2; exact .inr (.inr (.inr (.inl ⟨x, rfl, rfl⟩)))
  | [x, _, _], 2, h1, h2, _ => cases h1; cases h2; exact .inr (.inr (.inr (.inr (.inl ⟨x, rfl, rfl⟩))))
  | [_, _, x, y], 0, h1, h2, _ => cases h1; cases h2; exact .inr (.inr (.inr (.inr (.inr (.inl ⟨x, y, rfl, rfl⟩)))))
  | [_, _, x, y], 1, h1, h2, _ => cases h1; cases h2; exact .inr (.inr (.inr (.inr (.inr (.inr (.inl ⟨x, y, rfl, rfl⟩))))))
  | [x, _, _, y], 2, h1, h2, _ => cases h1; cases h2; exact .inr (.inr (.inr (.inr (.inr (.inr (.inr (.inl ⟨x, y, rfl, rfl⟩)))))))
  | [x, y, _, _], 3, h1, h2, _ => cases h1; cases h2; exact .inr (.inr (.inr (.inr (.inr (.inr (.inr (.inr ⟨x, y, rfl, rfl⟩)))))))
set_option maxHeartbeats 4000000
theorem ev_mend : ∀ x, evFnX tab [(1000001, cGh), (1000003, cGh), (1000009, cGh), (84, (pureC (Nat × Tw) [(.rd, false)] [false] (fun t => [twE (t.1 + 1) t.2]) (fun t => [[.lf (.int .i64 (IntKind.i64.wrap (t.2.ps.length + t.2.ks.length)))]]))), (95, (pureC (Nat × Tw) [(.rd, false)] [false] (fun t => [twE (t.1 + 1) t.2]) (fun t => [[.lf (.bool (decide (t.2.ks.length = 0)))]]))), (92, (cCopyS 2 RngX.ds)), (119, cDelTw)] cMend Try.f110 (body Try.f110) x := by
  rintro ⟨m, ks, i, d, k, hK, h2, h4, hk, hf⟩
  obtain ⟨f, s, e1, e2, l1, l2, hor⟩ := hK.mend h2 hk hf
  obtain ⟨r1, r2, r3, r4⟩ := resplit_ok l1 l2 hor
  have hme := mendL_eq e1 e2
  have hlc := l1.cases l2
  have hmp := mpos e1 e2 h4
  rcases hlc with ⟨p, q, rfl, rfl, hp, hq⟩ | ⟨fk, sk, rfl, rfl, hp0, hp, hq0, hq⟩
  · rcases hmp with ⟨rfl, rfl⟩ | ⟨rfl, rfl⟩ | ⟨⟨u1, j1⟩, rfl, rfl⟩ | ⟨⟨u1, j1⟩, rfl, rfl⟩ | ⟨⟨u1, j1⟩, rfl, rfl⟩ | ⟨⟨u1, j1⟩, ⟨u2, j2⟩, rfl, rfl⟩ | ⟨⟨u1, j1⟩, ⟨u2, j2⟩, rfl, rfl⟩ | ⟨⟨u1, j1⟩, ⟨u2, j2⟩, rfl, rfl⟩ | ⟨⟨u1, j1⟩, ⟨u2, j2⟩, rfl, rfl⟩
    let A : Nat := 0; let L : Nat := 2; let KL : Kid → Kid → List Kid := fun f s => [f, s]; let TL : List Tw → List Tw := fun r => [] ++ (r ++ []); have hL : A + 1 < L ∧ L ≤ 1000000 := (by decide : 0 + 1 < 2 ∧ 2 ≤ 1000000); rotate_left
    let A : Nat := 0; let L : Nat := 2; let KL : Kid → Kid → List Kid := fun f s => [f, s]; let TL : List Tw → List Tw := fun r => [] ++ (r ++ []); have hL : A + 1 < L ∧ L ≤ 1000000 := (by decide : 0 + 1 < 2 ∧ 2 ≤ 1000000); rotate_left
    let A : Nat := 0; let L : Nat := 3; let KL : Kid → Kid → List Kid := fun f s => [f, s, .live (.mk u1 j1)]; let TL : List Tw → List Tw := fun r => [] ++ (r ++ [.mk u1 j1]); have hL : A + 1 < L ∧ L ≤ 1000000 := (by decide : 0 + 1 < 3 ∧ 3 ≤ 1000000); rotate_left
    let A : Nat := 0; let L : Nat := 3; let KL : Kid → Kid → List Kid := fun f s => [f, s, .live (.mk u1 j1)]; let TL : List Tw → List Tw := fun r => [] ++ (r ++ [.mk u1 j1]); have hL : A + 1 < L ∧ L ≤ 1000000 := (by decide : 0 + 1 < 3 ∧ 3 ≤ 1000000); rotate_left
    let A : Nat := 1; let L : Nat := 3; let KL : Kid → Kid → List Kid := fun f s => [.live (.mk u1 j1), f, s]; let TL : List Tw → List Tw := fun r => [.mk u1 j1] ++ (r ++ []); have hL : A + 1 < L ∧ L ≤ 1000000 := (by decide : 1 + 1 < 3 ∧ 3 ≤ 1000000); rotate_left
    let A : Nat := 0; let L : Nat := 4; let KL : Kid → Kid → List Kid := fun f s => [f, s, .live (.mk u1 j1), .live (.mk u2 j2)]; let TL : List Tw → List Tw := fun r => [] ++ (r ++ [.mk u1 j1, .mk u2 j2]); have hL : A + 1 < L ∧ L ≤ 1000000 := (by decide : 0 + 1 < 4 ∧ 4 ≤ 1000000); rotate_left
    let A : Nat := 0; let L : Nat := 4; let KL : Kid → Kid → List Kid := fun f s => [f, s, .live (.mk u1 j1), .live (.mk u2 j2)]; let TL : List Tw → List Tw := fun r => [] ++ (r ++ [.mk u1 j1, .mk u2 j2]); have hL : A + 1 < L ∧ L ≤ 1000000 := (by decide : 0 + 1 < 4 ∧ 4 ≤ 1000000); rotate_left
    let A : Nat := 1; let L : Nat := 4; let KL : Kid → Kid → List Kid := fun f s => [.live (.mk u1 j1), f, s, .live (.mk u2 j2)]; let TL : List Tw → List Tw := fun r => [.mk u1 j1] ++ (r ++ [.mk u2 j2]); have hL : A + 1 < L ∧ L ≤ 1000000 := (by decide : 1 + 1 < 4 ∧ 4 ≤ 1000000); rotate_left
    let A : Nat := 2; let L : Nat := 4; let KL : Kid → Kid → List Kid := fun f s => [.live (.mk u1 j1), .live (.mk u2 j2), f, s]; let TL : List Tw → List Tw := fun r => [.mk u1 j1, .mk u2 j2] ++ (r ++ []); have hL : A + 1 < L ∧ L ≤ 1000000 := (by decide : 2 + 1 < 4 ∧ 4 ≤ 1000000); rotate_left
    all_goals
      conv => whnf
      refine ⟨[.opn 2 1000], ?_⟩
      conv => whnf
      refine ⟨Int.natCast_nonneg A, Int.ofNat_lt.2 (show A < L by omega), ?_⟩
      conv => whnf
      refine ⟨Int.natCast_nonneg (A + 1), Int.ofNat_lt.2 hL.1, ?_⟩
      conv => whnf
      repeat (refine rc_i (by (conv => whnf); first | rfl | exact fun _ => rfl | exact ⟨Int.natCast_nonneg A, Int.ofNat_lt.2 (show A < L by omega), rfl⟩ | exact ⟨Int.natCast_nonneg (A + 1), Int.ofNat_lt.2 hL.1, rfl⟩) ?_; conv => whnf)
      refine ⟨fun _ => rfl, q, rfl, (show p.length + q.length ≤ 4294967296 by omega), ?_⟩
      conv => whnf
      repeat (refine rc_i (by (conv => whnf); first | rfl | exact fun _ => rfl | exact ⟨Int.natCast_nonneg A, Int.ofNat_lt.2 (show A < L by omega), rfl⟩ | exact ⟨Int.natCast_nonneg (A + 1), Int.ofNat_lt.2 hL.1, rfl⟩) ?_; conv => whnf)
      refine ⟨[.enc (16005 + 3 * A), .cutc (16003 + 3 * A) 0 1], ?_⟩
      conv => whnf
      refine ⟨Option Tw, twOE m, [], twOE_len m, rfl, ?_⟩
      conv => whnf
      refine ⟨none, rfl, ?_⟩
      conv => whnf
      refine ⟨[], rfl, (show 0 + 0 ≤ 4294967296 by decide), ?_⟩
      conv => whnf
      repeat (refine rc_i (by (conv => whnf); first | rfl | exact fun _ => rfl | exact ⟨Int.natCast_nonneg A, Int.ofNat_lt.2 (show A < L by omega), rfl⟩ | exact ⟨Int.natCast_nonneg (A + 1), Int.ofNat_lt.2 hL.1, rfl⟩) ?_; conv => whnf)
      refine ⟨(m, .mk (p ++ q) []), rfl, ?_⟩
      rintro _ _ ⟨rfl, rfl⟩
      conv => whnf
      have hpq : (p ++ q).length = p.length + q.length := List.length_append
      have hw : IntKind.i64.wrap (((p ++ q).length : Int) + ((([] : List Tw).length : Nat) : Int)) = ((p.length + q.length : Nat) : Int) := by rw [List.length_nil, w64 (by omega) (by omega)]; omega
      refine br2 (fun h9 => ?_) (fun h9 => ?_)
      · have h9' : p.length + q.length ≤ 4 := by
          replace h9 : decide (IntKind.i64.wrap (((p ++ q).length : Int) + ((([] : List Tw).length : Nat) : Int)) ≤ 4) = true := h9
          rw [hw] at h9
          have := of_decide_eq_true h9; omega
        have hr := resplit_l1 h9'
        conv => whnf
        refine ⟨Unit, fun _ => [.dead], [], fun _ => rfl, rfl, ?_⟩
        conv => whnf
        refine ⟨Kid, kE (m + 1), (KL (.live (.mk (p ++ q) [])) (.gone q 0)), kE_len _, rfl, ?_⟩
        conv => whnf
        refine ⟨⟨m + 1, (KL (.live (.mk (p ++ q) [])) (.gone q 0)), A + 1, (TL [.mk (p ++ q) []]), hL.1, rfl, hL.2⟩, rfl, ?_⟩
        rintro _ _ ⟨rfl, rfl⟩
        conv => whnf
        refine ⟨⟨?_, rfl⟩⟩
        show [twE (m + 2) (.mk [] (TL [.mk (p ++ q) []]))] = [twE (m + 2) (.mk [] (mendL _ _))]
        rw [hme, hr]; rfl
      · have h9' : ¬ p.length + q.length ≤ 4 := by
          replace h9 : decide (IntKind.i64.wrap (((p ++ q).length : Int) + ((([] : List Tw).length : Nat) : Int)) ≤ 4) = false := h9
          rw [hw] at h9
          have := of_decide_eq_false h9; omega
        have hr := resplit_l2 h9'
        have h3 : (3 : Int) ≤ ((p ++ q).length : Int) := by omega
        have e3 : ((p ++ q).drop 3).take (((p ++ q).length : Int) - 3).toNat = (p ++ q).drop 3 := List.take_of_length_le (by rw [List.length_drop]; omega)
        conv => whnf
        refine ⟨(m, .mk (p ++ q) []), rfl, ?_⟩
        rintro _ _ ⟨rfl, rfl⟩
        conv => whnf
        refine ⟨by decide, h3, Int.le_refl _, ?_⟩
        conv => whnf
        refine ⟨⟨((p ++ q).drop 3).take (((p ++ q).length : Int) - 3).toNat, (by rw [e3, List.length_drop]; omega)⟩, rfl, ?_⟩
        rintro _ _ ⟨rfl, rfl⟩
        conv => whnf
        refine ⟨by decide, by decide, by decide, h3, ?_⟩
        conv => whnf
        refine ⟨RngX, RngX.ds, (p ++ q).take 3, fun _ => rfl, rfl, ?_⟩
        conv => whnf
        refine ⟨Tw, twE m, [], twE_len m, rfl, ?_⟩
        conv => whnf
        refine ⟨Tw, twE (m + 1), (TL [.mk ((p ++ q).take 3) [], .mk (((p ++ q).drop 3).take (((p ++ q).length : Int) - 3).toNat) []]), twE_len _, rfl, ?_⟩
        conv => whnf
        refine ⟨⟨?_, rfl⟩⟩
        show [twE (m + 2) (.mk [] (TL [.mk ((p ++ q).take 3) [], .mk (((p ++ q).drop 3).take (((p ++ q).length : Int) - 3).toNat) []]))] = [twE (m + 2) (.mk [] (mendL _ _))]
        rw [hme, hr]; show _ = [twE (m + 2) (.mk [] (TL [.mk ((p ++ q).take 3) [], .mk ((p ++ q).drop 3) []]))]; rw [e3]
  · rcases hmp with ⟨rfl, rfl⟩ | ⟨rfl, rfl⟩ | ⟨⟨u1, j1⟩, rfl, rfl⟩ | ⟨⟨u1, j1⟩, rfl, rfl⟩ | ⟨⟨u1, j1⟩, rfl, rfl⟩ | ⟨⟨u1, j1⟩, ⟨u2, j2⟩, rfl, rfl⟩ | ⟨⟨u1, j1⟩, ⟨u2, j2⟩, rfl, rfl⟩ | ⟨⟨u1, j1⟩, ⟨u2, j2⟩, rfl, rfl⟩ | ⟨⟨u1, j1⟩, ⟨u2, j2⟩, rfl, rfl⟩
    let A : Nat := 0; let L : Nat := 2; let KL : Kid → Kid → List Kid := fun f s => [f, s]; let TL : List Tw → List Tw := fun r => [] ++ (r ++ []); have hL : A + 1 < L ∧ L ≤ 1000000 := (by decide : 0 + 1 < 2 ∧ 2 ≤ 1000000); rotate_left
    let A : Nat := 0; let L : Nat := 2; let KL : Kid → Kid → List Kid := fun f s => [f, s]; let TL : List Tw → List Tw := fun r => [] ++ (r ++ []); have hL : A + 1 < L ∧ L ≤ 1000000 := (by decide : 0 + 1 < 2 ∧ 2 ≤ 1000000); rotate_left
    let A : Nat := 0; let L : Nat := 3; let KL : Kid → Kid → List Kid := fun f s => [f, s, .live (.mk u1 j1)]; let TL : List Tw → List Tw := fun r => [] ++ (r ++ [.mk u1 j1]); have hL : A + 1 < L ∧ L ≤ 1000000 := (by decide : 0 + 1 < 3 ∧ 3 ≤ 1000000); rotate_left
    let A : Nat := 0; let L : Nat := 3; let KL : Kid → Kid → List Kid := fun f s => [f, s, .live (.mk u1 j1)]; let TL : List Tw → List Tw := fun r => [] ++ (r ++ [.mk u1 j1]); have hL : A + 1 < L ∧ L ≤ 1000000 := (by decide : 0 + 1 < 3 ∧ 3 ≤ 1000000); rotate_left
    let A : Nat := 1; let L : Nat := 3; let KL : Kid → Kid → List Kid := fun f s => [.live (.mk u1 j1), f, s]; let TL : List Tw → List Tw := fun r => [.mk u1 j1] ++ (r ++ []); have hL : A + 1 < L ∧ L ≤ 1000000 := (by decide : 1 + 1 < 3 ∧ 3 ≤ 1000000); rotate_left
    let A : Nat := 0; let L : Nat := 4; let KL : Kid → Kid → List Kid := fun f s => [f, s, .live (.mk u1 j1), .live (.mk u2 j2)]; let TL : List Tw → List Tw := fun r => [] ++ (r ++ [.mk u1 j1, .mk u2 j2]); have hL : A + 1 < L ∧ L ≤ 1000000 := (by decide : 0 + 1 < 4 ∧ 4 ≤ 1000000); rotate_left
    let A : Nat := 0; let L : Nat := 4; let KL : Kid → Kid → List Kid := fun f s => [f, s, .live (.mk u1 j1), .live (.mk u2 j2)]; let TL : List Tw → List Tw := fun r => [] ++ (r ++ [.mk u1 j1, .mk u2 j2]); have hL : A + 1 < L ∧ L ≤ 1000000 := (by decide : 0 + 1 < 4 ∧ 4 ≤ 1000000); rotate_left
    let A : Nat := 1; let L : Nat := 4; let KL : Kid → Kid → List Kid := fun f s => [.live (.mk u1 j1), f, s, .live (.mk u2 j2)]; let TL : List Tw → List Tw := fun r => [.mk u1 j1] ++ (r ++ [.mk u2 j2]); have hL : A + 1 < L ∧ L ≤ 1000000 := (by decide : 1 + 1 < 4 ∧ 4 ≤ 1000000); rotate_left
    let A : Nat := 2; let L : Nat := 4; let KL : Kid → Kid → List Kid := fun f s => [.live (.mk u1 j1), .live (.mk u2 j2), f, s]; let TL : List Tw → List Tw := fun r => [.mk u1 j1, .mk u2 j2] ++ (r ++ []); have hL : A + 1 < L ∧ L ≤ 1000000 := (by decide : 2 + 1 < 4 ∧ 4 ≤ 1000000); rotate_left
    all_goals
      conv => whnf
      refine ⟨[.opn 2 1000], ?_⟩
      conv => whnf
      refine ⟨Int.natCast_nonneg A, Int.ofNat_lt.2 (show A < L by omega), ?_⟩
      conv => whnf
      refine ⟨Int.natCast_nonneg (A + 1), Int.ofNat_lt.2 hL.1, ?_⟩
      conv => whnf
      repeat (refine rc_i (by (conv => whnf); first | rfl | exact fun _ => rfl | exact ⟨Int.natCast_nonneg A, Int.ofNat_lt.2 (show A < L by omega), rfl⟩ | exact ⟨Int.natCast_nonneg (A + 1), Int.ofNat_lt.2 hL.1, rfl⟩) ?_; conv => whnf)
      refine ⟨fun _ => rfl, [], rfl, (show 0 + 0 ≤ 4294967296 by decide), ?_⟩
      conv => whnf
      repeat (refine rc_i (by (conv => whnf); first | rfl | exact fun _ => rfl | exact ⟨Int.natCast_nonneg A, Int.ofNat_lt.2 (show A < L by omega), rfl⟩ | exact ⟨Int.natCast_nonneg (A + 1), Int.ofNat_lt.2 hL.1, rfl⟩) ?_; conv => whnf)
      refine ⟨[.enc (16005 + 3 * A), .cutc (16003 + 3 * A) 0 1], ?_⟩
      conv => whnf
      refine ⟨Option Tw, twOE m, sk.map some, twOE_len m, by rw [List.map_map]; rfl, ?_⟩
      conv => whnf
      refine ⟨none, rfl, ?_⟩
      conv => whnf
      refine ⟨sk, ?_, (show fk.length + sk.length ≤ 4294967296 by omega), ?_⟩
      · show sk.map (twE m) = (((sk.map some).drop 0).take (sk.map some).length).map (twOE m)
        rw [List.drop_zero, List.take_length, List.map_map]; rfl
      conv => whnf
      repeat (refine rc_i (by (conv => whnf); first | rfl | exact fun _ => rfl | exact ⟨Int.natCast_nonneg A, Int.ofNat_lt.2 (show A < L by omega), rfl⟩ | exact ⟨Int.natCast_nonneg (A + 1), Int.ofNat_lt.2 hL.1, rfl⟩) ?_; conv => whnf)
      refine ⟨(m, .mk [] (fk ++ sk)), rfl, ?_⟩
      rintro _ _ ⟨rfl, rfl⟩
      conv => whnf
      have hpq : (fk ++ sk).length = fk.length + sk.length := List.length_append
      have hw : IntKind.i64.wrap (((([] : List RngX).length : Nat) : Int) + ((fk ++ sk).length : Int)) = ((fk.length + sk.length : Nat) : Int) := by rw [List.length_nil, w64 (by omega) (by omega)]; omega
      have hsm : (sk.map some).length = sk.length := List.length_map ..
      refine br2 (fun h9 => ?_) (fun h9 => ?_)
      · have h9' : fk.length + sk.length ≤ 4 := by
          replace h9 : decide (IntKind.i64.wrap (((([] : List RngX).length : Nat) : Int) + ((fk ++ sk).length : Int)) ≤ 4) = true := h9
          rw [hw] at h9
          have := of_decide_eq_true h9; omega
        have hr := resplit_n1 h9'
        conv => whnf
        refine ⟨Unit, fun _ => [.dead], List.replicate sk.length (), fun _ => rfl, ?_, ?_⟩
        · show (List.replicate sk.length ()).map (fun _ => [D.dead]) = ((((sk.map some).take 0 ++ List.replicate (sk.map some).length none ++ (sk.map some).drop (0 + (sk.map some).length)).drop 0).take (sk.map some).length).map (twOE m)
          rw [hsm, List.take_zero, List.nil_append, List.drop_zero, List.take_append_of_le_length (by rw [List.length_replicate]; omega), List.take_of_length_le (by rw [List.length_replicate]; omega), List.map_replicate, List.map_replicate]; rfl
        conv => whnf
        refine ⟨Kid, kE (m + 1), (KL (.live (.mk [] (fk ++ sk))) (.gone [] sk.length)), kE_len _, rfl, ?_⟩
        conv => whnf
        refine ⟨⟨m + 1, (KL (.live (.mk [] (fk ++ sk))) (.gone [] sk.length)), A + 1, (TL [.mk [] (fk ++ sk)]), hL.1, rfl, hL.2⟩, rfl, ?_⟩
        rintro _ _ ⟨rfl, rfl⟩
        conv => whnf
        refine ⟨⟨?_, rfl⟩⟩
        show [twE (m + 2) (.mk [] (TL [.mk [] (fk ++ sk)]))] = [twE (m + 2) (.mk [] (mendL _ _))]
        rw [hme, hr]; rfl
      · have h9' : ¬ fk.length + sk.length ≤ 4 := by
          replace h9 : decide (IntKind.i64.wrap (((([] : List RngX).length : Nat) : Int) + ((fk ++ sk).length : Int)) ≤ 4) = false := h9
          rw [hw] at h9
          have := of_decide_eq_false h9; omega
        have hr := resplit_n2 h9'
        have h0 : ¬ (fk ++ sk).length = 0 := by omega
        have h3 : (3 : Int) ≤ ((fk ++ sk).length : Int) := by omega
        have hsm2 : ((fk ++ sk).map some).length = (fk ++ sk).length := List.length_map ..
        conv => whnf
        refine ⟨(m, .mk [] (fk ++ sk)), rfl, ?_⟩
        rintro _ _ ⟨rfl, rfl⟩
        conv => whnf
        refine br2 (fun h8 => ?_) (fun h8 => ?_)
        · exact absurd (of_decide_eq_true h8) h0
        conv => whnf
        refine ⟨[.enc 736], ?_⟩
        conv => whnf
        refine ⟨Option Tw, twOE m, (fk ++ sk).map some, twOE_len _, by rw [List.map_map]; rfl, ?_⟩
        conv => whnf
        refine ⟨by decide, (show (3 : Int) ≤ (((fk ++ sk).map some).length : Int) by omega), Int.le_refl _, ?_⟩
        conv => whnf
        refine ⟨true, ?_⟩
        conv => whnf
        refine ⟨Tw, twE m, [], twE_len _, rfl, ?_⟩
        conv => whnf
        refine ⟨none, rfl, ?_⟩
        conv => whnf
        refine ⟨(fk ++ sk).drop 3, ?_, ?_, ?_⟩
        · show ((fk ++ sk).drop 3).map (twE m) = ((((fk ++ sk).map some).drop 3).take ((((fk ++ sk).map some).length : Int) - 3).toNat).map (twOE m)
          rw [List.take_of_length_le (by rw [List.length_drop]; omega), ← List.map_drop, List.map_map]; rfl
        · show 0 + ((fk ++ sk).drop 3).length ≤ 4294967296
          rw [List.length_drop]; omega
        conv => whnf
        refine ⟨by decide, by decide, by decide, (show (3 : Int) ≤ ((((fk ++ sk).map some).take 3 ++ List.replicate ((((fk ++ sk).map some).length : Int) - 3).toNat none ++ ((fk ++ sk).map some).drop (3 + ((((fk ++ sk).map some).length : Int) - 3).toNat)).length : Int) by
          rw [List.length_append, List.length_append, List.length_take]; omega), ?_⟩
        conv => whnf
        refine ⟨Tw, twE m, (fk ++ sk).take 3, twE_len _, ?_, ?_⟩
        · exact cut_some _ (by omega)
        conv => whnf
        refine ⟨Tw, twE (m + 1), (TL [.mk [] ((fk ++ sk).take 3), .mk [] ((fk ++ sk).drop 3)]), twE_len _, rfl, ?_⟩
        conv => whnf
        refine ⟨⟨?_, rfl⟩⟩
        show [twE (m + 2) (.mk [] (TL [.mk [] ((fk ++ sk).take 3), .mk [] ((fk ++ sk).drop 3)]))] = [twE (m + 2) (.mk [] (mendL _ _))]
        rw [hme, hr]; rfl
theorem mend_ok : FnOk Try.prog 110 cMend := fnOk_of fun x => fnX_at tab_ok (SOk.cons gh_ok (SOk.cons gh_ok (SOk.cons gh_ok (SOk.cons sizeTw_ok (SOk.cons isLeaf_ok (SOk.cons copyPairs_ok (SOk.cons delTw_ok SOk.nil))))))) mixed (fn := Try.f110) (code := body Try.f110) ⟨Try.func110, rfl, by kernel_rfl, by kernel_rfl, by kernel_rfl, by kernel_rfl⟩ (ev_mend x)
end Go.Vm
namespace Go.Vm
open Go.Proofs
set_option maxRecDepth 100000
set_option linter.unusedVariables false
set_option linter.unusedSimpArgs false

structure DropI where
  n : Nat
  x : Tw
  b : Bool
  d : Nat
  h : Shp b d x
  hn : d ≤ n
  k : ByteArray
  hs : Srt x.all
def cDropI : Con := { X := DropI, params := [(.mut, false), (.rd, false)], res := [], resOwn := true, ins := fun a => [twE a.n a.x, [.lf (.string a.k)]], post := fun a outs r => r = [] ∧ ∃ u j, outs = [twE a.n (.mk u j)] ∧ a.x.drop a.d a.k = .mk u j }
theorem ev_drop : ∀ n x, (fun a => a.d) x = n → evFnX tab [(83, cDropI.below (fun a => a.d) n), (1000004, cGh), (1000006, cGh), (95, (pureC (Nat × Tw) [(.rd, false)] [false] (fun t => [twE (t.1 + 1) t.2]) (fun t => [[.lf (.bool (decide (t.2.ks.length = 0)))]]))), (103, (pureC DelPX [(.take, false), (.rd, false)] [false] (fun x => [[.row 2 RngX.ds x.l], [dropD x.t]]) (fun x => [[.row 2 RngX.ds x.out]]))), (96, cKid), (84, (pureC (Nat × Tw) [(.rd, false)] [false] (fun t => [twE (t.1 + 1) t.2]) (fun t => [[.lf (.int .i64 (IntKind.i64.wrap (t.2.ps.length + t.2.ks.length)))]]))), (110, cMend)] cDropI Try.f83 (body Try.f83) x := by
  rintro N ⟨n, ⟨ps, ks⟩, b, d, h, hn, key, hs⟩ rfl
  have hpos := h.pos
  obtain ⟨n, rfl⟩ : ∃ m, n = m + 1 := ⟨n - 1, by omega⟩
  cases ks with
  | nil =>
    have hd : d = 1 := by cases h with | leaf => rfl | node h1 _ _ => simp at h1
    have hps : ps.length ≤ 4 := by cases h with | leaf _ h2 => exact h2 | node h1 _ _ => simp at h1
    subst hd
    conv => whnf
    refine ⟨(n, .mk ps []), rfl, ?_⟩
    rintro _ _ ⟨rfl, rfl⟩
    conv => whnf
    refine ⟨⟨ps, key, by omega⟩, rfl, ?_⟩
    rintro _ _ ⟨rfl, rfl⟩
    conv => whnf
    refine ⟨⟨rfl, delL key ps, [], ?_, rfl⟩⟩
    show [[D.box [D.row 2 RngX.ds (DelPX.out ⟨ps, key, _⟩), D.row 1 (twE n) []]]] = [[D.box [D.row 2 RngX.ds (delL key ps), D.row 1 (twE n) []]]]
    rw [DelPX.eq]
  | cons k ks =>
    cases h with
    | node h1 h2 h3 =>
    rename_i d
    replace hs : Srt (Tw.alls (k :: ks)) := by simpa [Tw.all] using hs
    have hn' : d ≤ n := by omega
    have h1' : 2 ≤ (k :: ks).length := h1
    have h2' : (k :: ks).length ≤ 4 := h2
    conv => whnf
    refine ⟨(n, .mk [] (k :: ks)), rfl, ?_⟩
    rintro _ _ ⟨rfl, rfl⟩
    conv => whnf
    refine ⟨⟨n, [], k :: ks, d, h3, hn', by omega, by simp, key⟩, rfl, ?_⟩
    rintro _ _ ⟨rfl, i, rfl, w⟩
    replace w : Way (k :: ks) key i := w
    have hi := w.lt
    obtain ⟨y, hy⟩ := getL hi
    have hys := h3 y (List.mem_of_getElem? hy)
    have hyp := hys.pos
    obtain ⟨n, rfl⟩ : ∃ m, n = m + 1 := ⟨n - 1, by omega⟩
    have hsy : Srt y.all := by
      rw [Tw.alls_at hy, Srt.app, Srt.app] at hs
      exact hs.2.1.1
    have hwi : wayI (k :: ks) key = i := (wayI_way (by simp)).uniq w hs h3
    have hpn := drop_node (n := d) (ps := []) hwi hy
    have hdk := Tw.drop_ok key hys
    obtain ⟨us, is⟩ := y
    conv => whnf
    refine ⟨[.foc 2 i 1000], ?_⟩
    conv => whnf
    refine ex2 _ (by rw [nth_eq]; exact hy) ?_
    conv => whnf
    refine ⟨Int.natCast_nonneg _, ltI hy, ?_⟩
    conv => whnf
    repeat (refine rc_i (by (conv => whnf); first | rfl | exact fun _ => rfl | exact ⟨Int.natCast_nonneg _, ltI hy, rfl⟩ | exact ⟨Int.toNat_natCast _, rfl⟩) ?_; conv => whnf)
    refine ⟨Int.toNat_natCast _, ?_⟩
    conv => whnf
    repeat (refine rc_i (by (conv => whnf); first | rfl | exact fun _ => rfl | exact ⟨Int.natCast_nonneg _, ltI hy, rfl⟩ | exact ⟨Int.toNat_natCast _, rfl⟩) ?_; conv => whnf)
    refine ⟨⟨⟨n + 1, .mk us is, false, d, hys, hn', key, hsy⟩, Nat.lt_succ_self _⟩, rfl, ?_⟩
    rintro _ _ ⟨rfl, u, j, rfl, hdr⟩
    replace hdr : (Tw.mk us is).drop d key = .mk u j := hdr
    rw [hdr] at hpn hdk
    conv => whnf
    repeat (refine rc_i (by (conv => whnf); first | rfl | exact fun _ => rfl | exact ⟨Int.natCast_nonneg _, ltI hy, rfl⟩ | exact ⟨Int.toNat_natCast _, rfl⟩) ?_; conv => whnf)
    refine ⟨Int.natCast_nonneg _, ltI hy, ?_⟩
    conv => whnf
    refine ⟨Int.toNat_natCast _, ?_⟩
    conv => whnf
    refine ⟨(n, .mk u j), rfl, ?_⟩
    rintro _ _ ⟨rfl, rfl⟩
    conv => whnf
    have hul : u.length + j.length ≤ 8 := by cases hdk.1 <;> simp <;> omega
    have hw : IntKind.i64.wrap ((u.length : Int) + (j.length : Int)) = ((u.length + j.length : Nat) : Int) := by rw [w64 (by omega) (by omega)]; omega
    have hset : ((k :: ks).set i (.mk u j)).length = (k :: ks).length := List.length_set
    refine br2 (fun h9 => ?_) (fun h9 => ?_)
    · have hfew : (Tw.mk u j).few = true := by
        replace h9 : decide (IntKind.i64.wrap ((u.length : Int) + (j.length : Int)) < 2) = true := h9
        rw [hw] at h9
        have := of_decide_eq_true h9
        show decide (u.length + j.length < 2) = true
        rw [decide_eq_true]; omega
      conv => whnf
      refine ⟨[.unf 2], ?_⟩
      conv => whnf
      refine ⟨.mk u j, rfl, ?_⟩
      conv => whnf
      refine ⟨⟨n, (k :: ks).set i (.mk u j), i, d, .mk u j, Kds.set h3 hi hdk.1, by rw [hset]; exact h1', by rw [hset]; exact h2', List.getElem?_set_self hi, hfew⟩, rfl, ?_⟩
      rintro _ _ ⟨rfl, rfl⟩
      conv => whnf
      refine ⟨⟨rfl, [], mendL ((k :: ks).set i (.mk u j)) i, rfl, ?_⟩⟩
      show Tw.drop (d + 1) (.mk [] (k :: ks)) key = _
      rw [hpn, if_pos hfew]
    · have hfew : (Tw.mk u j).few = false := by
        replace h9 : decide (IntKind.i64.wrap ((u.length : Int) + (j.length : Int)) < 2) = false := h9
        rw [hw] at h9
        have := of_decide_eq_false h9
        show decide (u.length + j.length < 2) = false
        rw [decide_eq_false]; omega
      conv => whnf
      refine ⟨.mk u j, rfl, ?_⟩
      conv => whnf
      refine ⟨⟨rfl, [], (k :: ks).set i (.mk u j), rfl, ?_⟩⟩
      show Tw.drop (d + 1) (.mk [] (k :: ks)) key = _
      rw [hpn, if_neg (by rw [hfew]; simp)]
theorem drop_ok : FnOk Try.prog 83 cDropI := fn_rec (fun a => a.d) fun n hs x hx => fnX_at tab_ok (SOk.cons hs (SOk.cons gh_ok (SOk.cons gh_ok (SOk.cons isLeaf_ok (SOk.cons delP_ok (SOk.cons kid_ok (SOk.cons sizeTw_ok (SOk.cons mend_ok SOk.nil)))))))) mixed (fn := Try.f83) (code := body Try.f83) ⟨Try.func83, rfl, by kernel_rfl, by kernel_rfl, by kernel_rfl, by kernel_rfl⟩ (ev_drop n x hx)
end Go.Vm
namespace Go.Vm
open Go.Proofs
set_option maxRecDepth 100000
set_option linter.unusedVariables false
set_option linter.unusedSimpArgs false

def EdX.p (e : EdX) : RngX := ⟨e.key, e.val⟩
def edOkB (e : EdX) : Bool := keyOkB e.key && decide (e.val.size ≤ 60) && !(e.gone && !emp e.val)
structure BatchP (l : List EdX) : Prop where
  len : l.length ≤ 40
  ok : ∀ e ∈ l, edOkB e = true
/-- One edit; nothing where the tree would hold too many pairs. -/
def stepE (o : Option Tw) (e : EdX) : Option (Option Tw) :=
  if e.gone then some (dropO o e.key) else if (insL e.p (allO o)).length ≤ 200 then some (some (putO o e.p)) else none
def editsO (o : Option Tw) : List EdX → Option (Option Tw)
  | [] => some o
  | e :: l => (stepE o e).bind fun o' => editsO o' l
/-- What edits make of a tree's nodes. -/
structure TEditR (N : List NodeX) (l : List EdX) (N' : List NodeX) (ok : Bool) : Prop where
  yes : ∀ o o', Vo o → N = layO o → BatchP l → editsO o l = some o' → ok = true ∧ N' = layO o'
  no : (∀ o, Vo o → N = layO o → BatchP l → editsO o l = none) → ok = false ∧ N' = []
theorem TEditR.same {N U U' : List NodeX} {l : List EdX} {ok ok' : Bool} (h : TEditR N l U ok) (h' : TEditR N l U' ok') : U = U' ∧ ok = ok' := by
  by_cases hx : ∃ o o', Vo o ∧ N = layO o ∧ BatchP l ∧ editsO o l = some o'
  · obtain ⟨o, o', a, b, c, d⟩ := hx
    obtain ⟨rfl, rfl⟩ := h.yes o o' a b c d
    obtain ⟨rfl, rfl⟩ := h'.yes o o' a b c d
    exact ⟨rfl, rfl⟩
  · have no : ∀ o, Vo o → N = layO o → BatchP l → editsO o l = none := fun o a b c => by
      cases e : editsO o l with
      | none => rfl
      | some o' => exact absurd ⟨o, o', a, b, c, e⟩ hx
    obtain ⟨rfl, rfl⟩ := h.no no
    obtain ⟨rfl, rfl⟩ := h'.no no
    exact ⟨rfl, rfl⟩
/-! The data of a tree's pairs behind edits -/
def subB (s : ByteArray) : ByteArray := s.extract 1 s.size
/-- A pair under 'd': without its first byte. -/
def dataP (p : RngX) : Option RngX :=
  if bt p.lo 0 == 100 && (userOkB (subB p.lo) && uvalOkB p.hi) then some ⟨subB p.lo, p.hi⟩ else none
def editL (l : List RngX) (e : EdX) : List RngX :=
  if userOkB e.key && uvalOkB e.val then if e.gone then delL e.key l else insL e.p l else l
def dataL (all : List RngX) (edits : List EdX) : List RngX := edits.foldl editL (all.filterMap dataP)
theorem bs_sub (s : ByteArray) : bs (subB s) = (bs s).drop 1 := by
  show (s.extract 1 s.size).data.toList = s.data.toList.drop 1
  rw [ByteArray.data_extract, Array.toList_extract, List.extract_eq_take_drop, List.take_of_length_le]
  rw [List.length_drop, Array.length_toList]; exact Nat.le_refl _
theorem head_bt {s : ByteArray} {b : UInt8} {r : List UInt8} (h : bs s = b :: r) : bt s 0 = (b.toNat : Int) := by
  show ((s.data.toList.getD (0 : Int).toNat 0).toNat : Int) = _
  have : s.data.toList = b :: r := h
  rw [this]; rfl
theorem cons_bt {s : ByteArray} (hs : bt s 0 = 100) (n : 1 ≤ s.size) : bs s = 100 :: bs (subB s) := by
  rw [bs_sub]
  cases e : bs s with
  | nil =>
    exfalso
    have : (bs s).length = s.size := Array.length_toList
    rw [e] at this; simp at this; omega
  | cons b r =>
    have h := head_bt e
    rw [hs] at h
    have : b = 100 := by
      apply UInt8.toNat_inj.1
      have : (b.toNat : Int) = 100 := h.symm
      show b.toNat = 100
      omega
    rw [this]; rfl
theorem lt_sub {p q : ByteArray} (hp : bt p 0 = 100) (hq : bt q 0 = 100) (np : 1 ≤ p.size) (nq : 1 ≤ q.size) (h : strLt p q = true) : strLt (subB p) (subB q) = true := by
  have e : ∀ a b : ByteArray, strLt a b = Op.bytesLess (bs a) (bs b) := fun a b => by unfold strLt; rw [ByteArray.toList_eq, ByteArray.toList_eq]; rfl
  rw [e, cons_bt hp np, cons_bt hq nq] at h
  rw [e]
  simpa [Op.bytesLess] using h
theorem base_srt {all : List RngX} (hs : Srt all) (hk : ∀ p ∈ all, 1 ≤ p.lo.size) : Srt (all.filterMap dataP) := by
  have hs2 : all.Pairwise fun p q => strLt p.lo q.lo = true ∧ 1 ≤ p.lo.size ∧ 1 ≤ q.lo.size := by
    have := List.Pairwise.and_mem.1 hs
    exact this.imp fun {a b} h => ⟨h.2.2, hk a h.1, hk b h.2.1⟩
  refine List.Pairwise.filterMap (R := fun p q => strLt p.lo q.lo = true ∧ 1 ≤ p.lo.size ∧ 1 ≤ q.lo.size) dataP (fun a a' h b hb b' hb' => ?_) hs2
  unfold dataP at hb hb'
  split at hb
  · rename_i c1
    split at hb'
    · rename_i c2
      simp only [Bool.and_eq_true, beq_iff_eq] at c1 c2
      cases hb; cases hb'
      exact lt_sub c1.1 c2.1 h.2.1 h.2.2 h.1
    · cases hb'
  · cases hb
theorem editL_srt {l : List RngX} {e : EdX} (h : Srt l) : Srt (editL l e) := by
  unfold editL
  split
  · split
    · exact delL_srt h
    · exact insL_srt h
  · exact h
theorem editL_len (l : List RngX) (e : EdX) : (editL l e).length ≤ l.length + 1 := by
  unfold editL
  split
  · split
    · have := delL_len e.key l; omega
    · exact (insL_len e.p l).2.1
  · omega
end Go.Vm
namespace Go.Vm
open Go.Proofs
set_option maxRecDepth 100000
set_option linter.unusedVariables false
set_option linter.unusedSimpArgs false

theorem ev_pTake : ∀ x, evFnX tab [] (pureC (RngX × ByteArray) [(.rd, true), (.rd, false)] [false] (fun x => [x.1.ds, [.box [.lf (.string x.2)]]]) (fun x => [[.lf (.bool (strEq x.1.lo x.2))]])) Try.f104 (body Try.f104) x := by
  rintro ⟨y, x⟩
  conv => whnf
  exact ⟨⟨rfl, rfl⟩⟩
theorem pTake_ok : FnOk Try.prog 104 (pureC (RngX × ByteArray) [(.rd, true), (.rd, false)] [false] (fun x => [x.1.ds, [.box [.lf (.string x.2)]]]) (fun x => [[.lf (.bool (strEq x.1.lo x.2))]])) := fnOk_of fun x => fnX_at tab_ok (SOk.nil) mixed (fn := Try.f104) (code := body Try.f104) ⟨Try.func104, rfl, by kernel_rfl, by kernel_rfl, by kernel_rfl, by kernel_rfl⟩ (ev_pTake x)
def takeD (x : ByteArray) : D := .fn 104 [.box [.lf (.string x)]]
def cIdxTT : Con := relC (List RngX × ByteArray) [(.rd, false), (.rd, false)] [false] (fun x => [[.row 2 RngX.ds x.1], [takeD x.2]])
  (fun x r => (r = [[.lf (.int .i64 (-1))]] ∧ ∀ y ∈ x.1, strEq y.lo x.2 = false) ∨ ∃ i : Nat, r = [[.lf (.int .i64 i)]] ∧ i < x.1.length ∧ (∀ j y, j < i → x.1[j]? = some y → strEq y.lo x.2 = false) ∧ ∃ y, x.1[i]? = some y ∧ strEq y.lo x.2 = true)
theorem ev_idxT : ∀ x, evFnX tab [(104, (pureC (RngX × ByteArray) [(.rd, true), (.rd, false)] [false] (fun x => [x.1.ds, [.box [.lf (.string x.2)]]]) (fun x => [[.lf (.bool (strEq x.1.lo x.2))]])))] cIdxTT Try.f118 (body Try.f118) x := by
  rintro ⟨l, x⟩
  conv => whnf
  intro h1
  replace h1 : l.length ≤ 9223372036854775807 := h1
  conv => whnf
  refine ⟨fun m s h => ∃ i : Nat, i ≤ l.length ∧ (∀ j y, j < i → l[j]? = some y → strEq y.lo x = false) ∧ m = l.length - i ∧ s = [(8, .lf (.int .i64 i)), (7, .lf (.int .i64 l.length)), (6, .sl 0 none), (1, .fn 104 [.pt 16 0 0]), (0, .sl 0 none)] ∧ h = [(16, some (.arr false 1 [[.lf (.string x)]])), (0, some (.row .lent 2 RngX.ds l))],
    l.length, [(16, 16), (0, 0)], [(8, .lf (.int .i64 0)), (7, .lf (.int .i64 l.length)), (6, .sl 0 none), (1, .fn 104 [.pt 16 0 0]), (0, .sl 0 none)], [(16, some (.arr false 1 [[.lf (.string x)]])), (0, some (.row .lent 2 RngX.ds l))], ⟨rfl, ⟨rfl, rfl, rfl, rfl, rfl, trivial⟩, by repeat' first | exact trivial | refine ⟨rfl, ?_⟩⟩, ⟨0, by omega, fun j y h => by omega, by omega, rfl, rfl⟩, ?_⟩
  rintro m _ _ ⟨i, g1, g2, rfl, rfl, rfl⟩
  conv => whnf
  refine br2 (fun h5 => ?_) (fun h5 => ?_)
  · have hi : i < l.length := by have := of_decide_eq_true h5; omega
    obtain ⟨y, hy⟩ : ∃ y, l[i]? = some y := ⟨_, List.getElem?_eq_getElem hi⟩
    have hy2 : nth l ((i : Nat) : Int).toNat = some y := by rw [nth_eq, Int.toNat_natCast]; exact hy
    conv => whnf
    refine ⟨Int.natCast_nonneg _, (show (i : Int) < (l.length : Int) by omega), ?_⟩
    conv => whnf
    refine ex2 y hy2 ?_
    conv => whnf
    refine ⟨(y, x), rfl, ?_⟩
    rintro _ _ ⟨rfl, rfl⟩
    conv => whnf
    refine br2 (fun h6 => ?_) (fun h6 => ?_)
    · conv => whnf
      exact ⟨⟨rfl, .inr ⟨i, rfl, hi, g2, y, hy, h6⟩⟩⟩
    · replace h6 : strEq y.lo x = false := h6
      conv => whnf
      refine ⟨l.length - (i + 1), [(16, 16), (0, 0)], [(8, .lf (.int .i64 ((i + 1 : Nat) : Int))), (7, .lf (.int .i64 l.length)), (6, .sl 0 none), (1, .fn 104 [.pt 16 0 0]), (0, .sl 0 none)], [(16, some (.arr false 1 [[.lf (.string x)]])), (0, some (.row .lent 2 RngX.ds l))], by omega, ⟨rfl, ⟨?_, rfl, rfl, rfl, rfl, trivial⟩, by repeat' first | exact trivial | refine ⟨rfl, ?_⟩⟩, i + 1, by omega, fun j z h7 hz => ?_, by omega, rfl, rfl⟩
      · show V.lf (.int .i64 (IntKind.i64.wrap ((i : Int) + 1))) = _
        rw [w64 (by omega) (by omega)]; rfl
      · rcases Nat.lt_or_ge j i with h7 | h7
        · exact g2 j z h7 hz
        · obtain rfl : j = i := by omega
          rw [hy] at hz; cases hz; exact h6
  · have hi : i = l.length := by have := of_decide_eq_false h5; omega
    conv => whnf
    refine ⟨⟨rfl, .inl ⟨rfl, fun y hy => ?_⟩⟩⟩
    obtain ⟨j, hj⟩ := List.getElem?_of_mem hy
    have hj' := (List.getElem?_eq_some_iff.1 hj).1
    exact g2 j y (by rw [hi]; exact hj') hj
theorem idxT_ok : FnOk Try.prog 118 cIdxTT := fnOk_of fun x => fnX_at tab_ok (SOk.cons pTake_ok SOk.nil) mixed (fn := Try.f118) (code := body Try.f118) ⟨Try.func118, rfl, by kernel_rfl, by kernel_rfl, by kernel_rfl, by kernel_rfl⟩ (ev_idxT x)
theorem ev_delT : ∀ x, evFnX tab [(118, cIdxTT), (104, (pureC (RngX × ByteArray) [(.rd, true), (.rd, false)] [false] (fun x => [x.1.ds, [.box [.lf (.string x.2)]]]) (fun x => [[.lf (.bool (strEq x.1.lo x.2))]])))] (pureC DelPX [(.take, false), (.rd, false)] [false] (fun x => [[.row 2 RngX.ds x.l], [takeD x.t]]) (fun x => [[.row 2 RngX.ds x.out]])) Try.f103 (body Try.f103) x := by
  rintro ⟨l, x, hl⟩
  conv => whnf
  refine ⟨(l, x), rfl, ?_⟩
  rintro _ _ ⟨rfl, h0⟩
  rcases h0 with ⟨rfl, h0⟩ | ⟨i0, rfl, h0, h1, y0, h2, h3⟩
  · conv => whnf
    refine ⟨⟨rfl, ?_⟩⟩
    show [[D.row 2 RngX.ds l]] = [[D.row 2 RngX.ds (l.filter fun y => !strEq y.lo x)]]
    rw [List.filter_eq_self.2 fun y hy => by rw [h0 y hy]; rfl]
  conv => whnf
  replace h0 : i0 < l.length := h0
  have hw : IntKind.i64.wrap ((i0 : Int) + 1) = ((i0 + 1 : Nat) : Int) := by rw [w64 (by omega) (by omega)]; rfl
  let p : RngX → Bool := fun y => !strEq y.lo x
  replace h1 : ∀ j y, j < i0 → l[j]? = some y → strEq y.lo x = false := h1
  replace h2 : l[i0]? = some y0 := h2
  replace h3 : strEq y0.lo x = true := h3
  have hK0 : KeptP p l l i0 (i0 + 1) := by
    refine ⟨rfl, by omega, by omega, ?_, rfl⟩
    rw [List.take_add_one, List.filter_append, h2]
    have e1 : (l.take i0).filter p = l.take i0 := List.filter_eq_self.2 fun y hy => by
      obtain ⟨j, hj⟩ := List.getElem?_of_mem hy
      rw [List.getElem?_take] at hj
      split at hj
      · rename_i hlt
        show (!strEq y.lo x) = true
        rw [h1 j y hlt hj]; rfl
      · cases hj
    have e2 : p y0 = false := by show (!strEq y0.lo x) = false; rw [h3]; rfl
    rw [e1]; simp [e2]
  refine ⟨fun m s h => ∃ (i j : Nat) (l' : List RngX), KeptP p l l' i j ∧ m = l.length - j ∧ s = [(6, .lf (.int .i64 j)), (5, .lf (.int .i64 i)), (1, .fn 104 [.pt 16 0 0]), (0, .sl 0 none)] ∧ h = [(16, some (.arr false 1 [[.lf (.string x)]])), (0, some (.row .own 2 RngX.ds l'))],
    l.length - (i0 + 1), [(16, 16), (0, 0)], [(6, .lf (.int .i64 ((i0 + 1 : Nat) : Int))), (5, .lf (.int .i64 i0)), (1, .fn 104 [.pt 16 0 0]), (0, .sl 0 none)], [(16, some (.arr false 1 [[.lf (.string x)]])), (0, some (.row .own 2 RngX.ds l))],
    ⟨rfl, ⟨by show V.lf (.int .i64 (IntKind.i64.wrap ((i0 : Int) + 1))) = _; rw [hw], rfl, rfl, rfl, trivial⟩, rfl, rfl, trivial⟩, ⟨i0, i0 + 1, l, hK0, rfl, rfl, rfl⟩, ?_⟩
  rintro m _ _ ⟨i, j, l', hK, rfl, rfl, rfl⟩
  conv => whnf
  intro h5
  conv => whnf
  refine br2 (fun h6 => ?_) (fun h6 => ?_)
  · have hj : j < l.length := by have := of_decide_eq_true h6; have := hK.len; omega
    obtain ⟨y, hy, hy'⟩ := hK.at hj
    have hy2 : nth l' ((j : Nat) : Int).toNat = some y := by rw [nth_eq, Int.toNat_natCast]; exact hy'
    conv => whnf
    refine ⟨Int.natCast_nonneg _, (show (j : Int) < (l'.length : Int) by have := hK.len; omega), ?_⟩
    conv => whnf
    refine ex2 y hy2 ?_
    conv => whnf
    refine ⟨(y, x), rfl, ?_⟩
    rintro _ _ ⟨rfl, rfl⟩
    conv => whnf
    refine br2 (fun h7 => ?_) (fun h7 => ?_)
    · have hp : p y = true := h7
      have hij := hK.ij
      have hlen := hK.len
      obtain ⟨z, hz⟩ : ∃ z, l'[i]? = some z := ⟨_, List.getElem?_eq_getElem (by omega)⟩
      have hz2 : nth l' ((i : Nat) : Int).toNat = some z := by rw [nth_eq, Int.toNat_natCast]; exact hz
      conv => whnf
      refine ⟨Int.natCast_nonneg _, (show (i : Int) < (l'.length : Int) by omega), ?_⟩
      conv => whnf
      refine ex2 z hz2 ?_
      conv => whnf
      refine ⟨y, rfl, ?_⟩
      conv => whnf
      refine ⟨l.length - (j + 1), [(16, 16), (0, 0)], [(6, .lf (.int .i64 ((j + 1 : Nat) : Int))), (5, .lf (.int .i64 ((i + 1 : Nat) : Int))), (1, .fn 104 [.pt 16 0 0]), (0, .sl 0 none)], [(16, some (.arr false 1 [[.lf (.string x)]])), (0, some (.row .own 2 RngX.ds (l'.set i y)))],
        by omega, ⟨rfl, ⟨?_, ?_, rfl, rfl, trivial⟩, rfl, rfl, trivial⟩, i + 1, j + 1, l'.set i y, hK.keep hy hp, rfl, rfl, rfl⟩
      · show V.lf (.int .i64 (IntKind.i64.wrap ((j : Int) + 1))) = _
        rw [w64 (by omega) (by omega)]; rfl
      · show V.lf (.int .i64 (IntKind.i64.wrap ((i : Int) + 1))) = _
        rw [w64 (by omega) (by omega)]; rfl
    · have hp : p y = false := h7
      conv => whnf
      refine ⟨l.length - (j + 1), [(16, 16), (0, 0)], [(6, .lf (.int .i64 ((j + 1 : Nat) : Int))), (5, .lf (.int .i64 i)), (1, .fn 104 [.pt 16 0 0]), (0, .sl 0 none)], [(16, some (.arr false 1 [[.lf (.string x)]])), (0, some (.row .own 2 RngX.ds l'))],
        by omega, ⟨rfl, ⟨?_, rfl, rfl, rfl, trivial⟩, rfl, rfl, trivial⟩, i, j + 1, l', hK.skip hy hp, rfl, rfl, rfl⟩
      show V.lf (.int .i64 (IntKind.i64.wrap ((j : Int) + 1))) = _
      rw [w64 (by omega) (by omega)]; rfl
  · have hj : j = l.length := by have := of_decide_eq_false h6; have := hK.len; have := hK.jl; omega
    subst hj
    have hij := hK.ij
    have hlen := hK.len
    conv => whnf
    refine ⟨Int.natCast_nonneg _, (show (i : Int) ≤ (l'.length : Int) by omega), Int.le_refl _, ?_⟩
    conv => whnf
    refine ⟨rngZ, rfl, ?_⟩
    conv => whnf
    refine ⟨Int.le_refl _, Int.natCast_nonneg _, ?_, ?_⟩
    · show (i : Int) ≤ ((l'.take i ++ List.replicate ((l'.length : Int) - (i : Int)).toNat rngZ ++ l'.drop (i + ((l'.length : Int) - (i : Int)).toNat)).length : Int)
      simp; omega
    conv => whnf
    refine ⟨RngX, RngX.ds, _, fun _ => rfl, rfl, ?_⟩
    conv => whnf
    refine ⟨⟨rfl, ?_⟩⟩
    show [[D.row 2 RngX.ds (((l'.take i ++ List.replicate ((l'.length : Int) - (i : Int)).toNat rngZ ++ l'.drop (i + ((l'.length : Int) - (i : Int)).toNat)).drop 0).take ((i : Int) - 0).toNat)]] = [[D.row 2 RngX.ds (l.filter p)]]
    congr 3
    have := hK.front
    rw [List.take_length] at this
    rw [← this, List.drop_zero, List.append_assoc, List.take_append_of_le_length (by simp; omega)]
    simp [List.take_take]
theorem delT_ok : FnOk Try.prog 103 (pureC DelPX [(.take, false), (.rd, false)] [false] (fun x => [[.row 2 RngX.ds x.l], [takeD x.t]]) (fun x => [[.row 2 RngX.ds x.out]])) := fnOk_of fun x => fnX_at tab_ok (SOk.cons idxT_ok (SOk.cons pTake_ok SOk.nil)) mixed (fn := Try.f103) (code := body Try.f103) ⟨Try.func103, rfl, by kernel_rfl, by kernel_rfl, by kernel_rfl, by kernel_rfl⟩ (ev_delT x)

def cTake : Con := pureC DelPX [(.take, false), (.rd, false)] [false] (fun x => [[.row 2 RngX.ds x.l], [.lf (.string x.t)]]) (fun x => [[.row 2 RngX.ds (delL x.t x.l)]])
theorem ev_iTake : ∀ x, evFnX tab [(103, (pureC DelPX [(.take, false), (.rd, false)] [false] (fun x => [[.row 2 RngX.ds x.l], [takeD x.t]]) (fun x => [[.row 2 RngX.ds x.out]])))] cTake Try.f79 (body Try.f79) x := by
  rintro ⟨l, k, hl⟩
  conv => whnf
  refine ⟨⟨l, k, hl⟩, rfl, ?_⟩
  rintro _ _ ⟨rfl, rfl⟩
  conv => whnf
  refine ⟨⟨rfl, ?_⟩⟩
  show [[D.row 2 RngX.ds (DelPX.out ⟨l, k, _⟩)]] = [[D.row 2 RngX.ds (delL k l)]]
  rw [DelPX.eq]
theorem iTake_ok : FnOk Try.prog 79 cTake := fnOk_of fun x => fnX_at tab_ok (SOk.cons delT_ok SOk.nil) mixed (fn := Try.f79) (code := body Try.f79) ⟨Try.func79, rfl, by kernel_rfl, by kernel_rfl, by kernel_rfl, by kernel_rfl⟩ (ev_iTake x)
def cCmpP : Con := relC (RngX × ByteArray) [(.rd, true), (.rd, false)] [false] (fun x => [x.1.ds, [.lf (.string x.2)]]) (fun x r => ∃ c : Int, r = [[.lf (.int .i64 c)]] ∧ (c < 0 ↔ strLt x.1.lo x.2 = true) ∧ (c = 0 ↔ x.1.lo = x.2))
theorem ev_cmpP : ∀ x, evFnX tab [] cCmpP Try.f106 (body Try.f106) x := by
  rintro ⟨⟨lo, hi⟩, k⟩
  conv => whnf
  refine br2 (fun h1 => ?_) (fun h1 => ?_)
  · have h1' : strLt lo k = true := h1
    conv => whnf
    exact ⟨⟨rfl, -1, rfl, ⟨fun _ => h1', fun _ => by decide⟩, ⟨fun h => by omega, fun h => by
      replace h : lo = k := h
      rw [h, strLt_irrefl] at h1'; cases h1'⟩⟩⟩
  · have h1' : strLt lo k = false := h1
    conv => whnf
    refine br2 (fun h2 => ?_) (fun h2 => ?_)
    · have h2' : strLt lo k = false ∧ strEq lo k = false := by
        replace h2 : (!(strLt lo k || strEq lo k)) = true := h2
        simpa using h2
      conv => whnf
      exact ⟨⟨rfl, 1, rfl, ⟨fun h => by omega, fun h => by
        replace h : strLt lo k = true := h
        rw [h1'] at h; cases h⟩, ⟨fun h => by omega, fun h => absurd h (strEq_no.1 h2'.2)⟩⟩⟩
    · have h2' : strEq lo k = true := by
        replace h2 : (!(strLt lo k || strEq lo k)) = false := h2
        rw [h1'] at h2
        simpa using h2
      conv => whnf
      exact ⟨⟨rfl, 0, rfl, ⟨fun h => by omega, fun h => by
        replace h : strLt lo k = true := h
        rw [h1'] at h; cases h⟩, ⟨fun _ => strEq_iff.1 h2', fun _ => rfl⟩⟩⟩
theorem cmpP_ok : FnOk Try.prog 106 cCmpP := fnOk_of fun x => fnX_at tab_ok (SOk.nil) mixed (fn := Try.f106) (code := body Try.f106) ⟨Try.func106, rfl, by kernel_rfl, by kernel_rfl, by kernel_rfl, by kernel_rfl⟩ (ev_cmpP x)
structure BinX where
  l : List RngX
  k : ByteArray
  hs : Srt l
  hl : l.length ≤ 2000000
structure BinR (l : List RngX) (k : ByteArray) (i : Nat) (b : Bool) : Prop where
  le : i ≤ l.length
  lt : ∀ a ∈ l.take i, strLt a.lo k = true
  ge : ∀ x, l[i]? = some x → strLt x.lo k = false
  hit : b = true ↔ ∃ x, l[i]? = some x ∧ x.lo = k
def cBin : Con := relC BinX [(.rd, false), (.rd, false), (.rd, false)] [false, false] (fun x => [[.row 2 RngX.ds x.l], [.lf (.string x.k)], [.fn 106 []]]) (fun x r => ∃ i b, r = [[.lf (.int .i64 ((i : Nat) : Int))], [.lf (.bool b)]] ∧ BinR x.l x.k i b)
theorem half_eq {i j : Nat} (h : i + j ≤ 4000000) : IntKind.i64.wrap ((IntKind.u64.wrap (IntKind.i64.wrap ((i : Int) + (j : Int)))).fdiv (2 ^ (min (1 : Int).toNat IntKind.u64.bits))) = (((i + j) / 2 : Nat) : Int) := by
  have e1 : IntKind.i64.wrap ((i : Int) + (j : Int)) = ((i + j : Nat) : Int) := by rw [w64 (by omega) (by omega)]; omega
  have e2 : IntKind.u64.wrap ((i + j : Nat) : Int) = ((i + j : Nat) : Int) := by simp [IntKind.wrap, IntKind.bits, IntKind.signed]; omega
  have e3 : (2 : Int) ^ (min (1 : Int).toNat IntKind.u64.bits) = 2 := by decide
  rw [e1, e2, e3, Int.fdiv_eq_ediv_of_nonneg _ (by omega), w64 (by omega) (by omega)]
  omega
theorem ev_binP : ∀ x, evFnX tab [(106, cCmpP)] cBin Try.f105 (body Try.f105) x := by
  rintro ⟨l, k, hs, hl⟩
  replace hs : Srt l := hs
  replace hl : l.length ≤ 2000000 := hl
  conv => whnf
  intro _
  conv => whnf
  let S0 : Nat → Nat → Sl := fun i j => [(10, .lf (.int .i64 j)), (9, .lf (.int .i64 i)), (8, .lf (.int .i64 l.length)), (2, .fn 106 []), (1, .lf (.string k)), (0, .sl 0 none)]
  let H0 : Hp := [(0, some (.row .lent 2 RngX.ds l))]
  refine ⟨fun m s h => ∃ i j : Nat, i ≤ j ∧ j ≤ l.length ∧ (∀ a ∈ l.take i, strLt a.lo k = true) ∧ (∀ x, l[j]? = some x → strLt x.lo k = false) ∧ m = j - i ∧ s = S0 i j ∧ h = H0, l.length, [(0, 0)], S0 0 l.length, H0, ⟨rfl, ⟨rfl, rfl, rfl, rfl, rfl, rfl, trivial⟩, rfl, trivial⟩, ⟨0, l.length, by omega, by omega, by simp, fun x hx => by simp at hx, by omega, rfl, rfl⟩, ?_⟩
  rintro m _ _ ⟨i, j, g1, g2, g3, g4, rfl, rfl, rfl⟩
  conv => whnf
  refine br2 (fun h5 => ?_) (fun h5 => ?_)
  · have hij : i < j := by have := of_decide_eq_true h5; omega
    have hw := half_eq (show i + j ≤ 4000000 by omega)
    have hm1 : i ≤ (i + j) / 2 := by omega
    have hm2 : (i + j) / 2 < j := by omega
    generalize hq : (i + j) / 2 = q at *
    obtain ⟨y, hy⟩ := getL (l := l) (j := q) (by omega)
    conv => whnf
    refine ⟨(ixE hw hy).1, (ixE hw hy).2, ?_⟩
    conv => whnf
    refine ex2 _ (nthE hw hy) ?_
    conv => whnf
    refine ⟨(y, k), rfl, ?_⟩
    rintro _ _ ⟨rfl, c, rfl, c1, c2⟩
    conv => whnf
    replace c1 : c < 0 ↔ strLt y.lo k = true := c1
    refine br2 (fun h6 => ?_) (fun h6 => ?_)
    · have h6' : strLt y.lo k = true := c1.1 (of_decide_eq_true h6)
      have hw2 : V.lf (.int .i64 (IntKind.i64.wrap (IntKind.i64.wrap ((IntKind.u64.wrap (IntKind.i64.wrap ((i : Int) + (j : Int)))).fdiv (2 ^ (min (1 : Int).toNat IntKind.u64.bits))) + 1))) = V.lf (.int .i64 ((q + 1 : Nat) : Int)) := by
        rw [hw, w64 (by omega) (by omega)]; rfl
      conv => whnf
      refine ⟨j - (q + 1), [(0, 0)], S0 (q + 1) j, H0, by omega, ⟨rfl, ⟨rfl, hw2, rfl, rfl, rfl, rfl, trivial⟩, rfl, trivial⟩, q + 1, j, by omega, g2, fun a ha => ?_, g4, rfl, rfl, rfl⟩
      obtain ⟨x, hx⟩ := List.getElem?_of_mem ha
      rw [List.getElem?_take] at hx
      split at hx
      · rename_i hlt
        rcases Nat.lt_or_ge x q with h7 | h7
        · have hpw : strLt a.lo y.lo = true := by
            obtain ⟨z1, rfl⟩ := List.getElem?_eq_some_iff.1 hx
            obtain ⟨z2, rfl⟩ := List.getElem?_eq_some_iff.1 hy
            exact List.pairwise_iff_getElem.1 hs x q z1 z2 h7
          exact strLt_trans hpw h6'
        · obtain rfl : x = q := by omega
          rw [hy] at hx; cases hx; exact h6'
      · cases hx
    · have h6' : strLt y.lo k = false := by
        cases e : strLt y.lo k with
        | false => rfl
        | true => exact absurd (c1.2 e) (of_decide_eq_false h6)
      have hw2 : V.lf (.int .i64 (IntKind.i64.wrap ((IntKind.u64.wrap (IntKind.i64.wrap ((i : Int) + (j : Int)))).fdiv (2 ^ (min (1 : Int).toNat IntKind.u64.bits))))) = V.lf (.int .i64 (q : Int)) := by rw [hw]
      conv => whnf
      exact ⟨q - i, [(0, 0)], S0 i q, H0, by omega, ⟨rfl, ⟨hw2, rfl, rfl, rfl, rfl, rfl, trivial⟩, rfl, trivial⟩, i, q, hm1, by omega, g3, fun x hx => by rw [hy] at hx; cases hx; exact h6', rfl, rfl, rfl⟩
  · have hij : i = j := by have := of_decide_eq_false h5; omega
    subst hij
    conv => whnf
    refine br2 (fun h6 => ?_) (fun h6 => ?_)
    · have hi : i < l.length := by have := of_decide_eq_true h6; omega
      obtain ⟨y, hy⟩ := getL hi
      conv => whnf
      refine ⟨Int.natCast_nonneg _, ltI hy, ?_⟩
      conv => whnf
      refine ex2 _ (nthI hy) ?_
      conv => whnf
      refine ⟨(y, k), rfl, ?_⟩
      rintro _ _ ⟨rfl, c, rfl, c1, c2⟩
      conv => whnf
      replace c2 : c = 0 ↔ y.lo = k := c2
      refine ⟨⟨rfl, i, _, rfl, g2, g3, g4, ?_⟩⟩
      constructor
      · intro h
        replace h : (c == 0) = true := h
        exact ⟨y, hy, c2.1 (by simpa using h)⟩
      · rintro ⟨x, hx, e⟩
        replace hx : l[i]? = some x := hx
        rw [hy] at hx; cases hx
        show (c == 0) = true
        rw [c2.2 e]; rfl
    · have hi : ¬ i < l.length := by have := of_decide_eq_false h6; omega
      conv => whnf
      refine ⟨⟨rfl, i, false, rfl, g2, g3, g4, fun h => (by cases h), ?_⟩⟩
      rintro ⟨x, hx, _⟩
      exact absurd (List.getElem?_eq_some_iff.1 hx).1 hi
theorem binP_ok : FnOk Try.prog 105 cBin := fnOk_of fun x => fnX_at tab_ok (SOk.cons cmpP_ok SOk.nil) mixed (fn := Try.f105) (code := body Try.f105) ⟨Try.func105, rfl, by kernel_rfl, by kernel_rfl, by kernel_rfl, by kernel_rfl⟩ (ev_binP x)
structure PutPX where
  l : List RngX
  p : RngX
  hs : Srt l
  hl : l.length ≤ 2000000
def cPutP : Con := pureC PutPX [(.take, false), (.rd, true)] [false] (fun x => [[.row 2 RngX.ds x.l], x.p.ds]) (fun x => [[.row 2 RngX.ds (insL x.p x.l)]])
theorem ev_putP : ∀ x, evFnX tab [(105, cBin), (98, (cIns 2 RngX.ds))] cPutP Try.f80 (body Try.f80) x := by
  rintro ⟨l, p, hs, hl⟩
  replace hs : Srt l := hs
  replace hl : l.length ≤ 2000000 := hl
  conv => whnf
  refine ⟨⟨l, p.lo, hs, hl⟩, rfl, ?_⟩
  rintro _ _ ⟨rfl, i, b, rfl, r⟩
  replace r : BinR l p.lo i b := r
  cases b with
  | true =>
    obtain ⟨x, hx, e⟩ := r.hit.1 rfl
    conv => whnf
    refine ⟨Int.natCast_nonneg _, ltI hx, ?_⟩
    conv => whnf
    refine ex2 _ (nthI hx) ?_
    conv => whnf
    refine ⟨p, rfl, ?_⟩
    conv => whnf
    refine ⟨⟨rfl, ?_⟩⟩
    show [[D.row 2 RngX.ds (l.set i p)]] = [[D.row 2 RngX.ds (insL p l)]]
    rw [insL_hit r.lt hx e]
  | false =>
    have hins : insL p l = insAt l i p := by
      rcases Nat.lt_or_ge i l.length with h | h
      · obtain ⟨x, hx⟩ := getL h
        have h1 := r.ge x hx
        have h2 : strLt p.lo x.lo = true := by
          cases e : strLt p.lo x.lo with
          | true => rfl
          | false => have := r.hit.2 ⟨x, hx, strLt_tri h1 e⟩; cases this
        exact insL_mid r.lt hx h2
      · obtain rfl : i = l.length := by have := r.le; omega
        exact insL_last r.lt
    conv => whnf
    refine ⟨RngX, RngX.ds, [p], fun _ => rfl, rfl, ?_⟩
    conv => whnf
    refine ⟨⟨l, i, p, r.le, hl⟩, rfl, ?_⟩
    rintro _ _ ⟨rfl, rfl⟩
    conv => whnf
    refine ⟨⟨rfl, ?_⟩⟩
    show [[D.row 2 RngX.ds (insAt l i p)]] = [[D.row 2 RngX.ds (insL p l)]]
    rw [hins]
theorem putP_ok : FnOk Try.prog 80 cPutP := fnOk_of fun x => fnX_at tab_ok (SOk.cons binP_ok (SOk.cons insPair_ok SOk.nil)) mixed (fn := Try.f80) (code := body Try.f80) ⟨Try.func80, rfl, by kernel_rfl, by kernel_rfl, by kernel_rfl, by kernel_rfl⟩ (ev_putP x)
end Go.Vm
namespace Go.Vm
open Go.Proofs
set_option maxRecDepth 100000
set_option linter.unusedVariables false
set_option linter.unusedSimpArgs false

theorem base_take {all : List RngX} {i : Nat} {y : RngX} (h : all[i]? = some y) : (all.take (i + 1)).filterMap dataP = (all.take i).filterMap dataP ++ (dataP y).toList := by
  rw [List.take_add_one, h, List.filterMap_append]
  cases e : dataP y <;> simp [e]
theorem fold_take {l : List EdX} {i : Nat} {y : EdX} (b : List RngX) (h : l[i]? = some y) : (l.take (i + 1)).foldl editL b = editL ((l.take i).foldl editL b) y := by
  rw [List.take_add_one, h, List.foldl_append]; rfl
theorem fold_srt {b : List RngX} (hb : Srt b) : ∀ (l : List EdX), Srt (l.foldl editL b) ∧ (l.foldl editL b).length ≤ b.length + l.length
  | [] => ⟨hb, by simp⟩
  | e :: l => by
    have h := fold_srt (editL_srt (e := e) hb) l
    have := editL_len b e
    simp only [List.foldl_cons, List.length_cons]
    exact ⟨h.1, by omega⟩
def userB (p : RngX) : Bool := userOkB p.lo && uvalOkB p.hi
theorem ev_userPair : ∀ x, evFnX tab [(101, cUserOk), (102, cUvalOk)] (pureC RngX [(.rd, true)] [false] (fun x => [x.ds]) (fun x => [[.lf (.bool (userB x))]])) Try.f78 (body Try.f78) x := by
  rintro ⟨lo, hi⟩
  have eu : userB ⟨lo, hi⟩ = (userOkB lo && uvalOkB hi) := rfl
  conv => whnf
  refine ⟨lo, rfl, ?_⟩
  rintro _ _ ⟨rfl, rfl⟩
  conv => whnf
  cases h : userOkB lo with
  | false =>
    conv => whnf
    refine ⟨⟨rfl, ?_⟩⟩
    show [[D.lf (.bool false)]] = [[D.lf (.bool (userB ⟨lo, hi⟩))]]
    rw [eu, h]; rfl
  | true =>
    conv => whnf
    refine ⟨hi, rfl, ?_⟩
    rintro _ _ ⟨rfl, rfl⟩
    conv => whnf
    refine ⟨⟨rfl, ?_⟩⟩
    show [[D.lf (.bool (uvalOkB hi))]] = [[D.lf (.bool (userB ⟨lo, hi⟩))]]
    rw [eu, h]; rfl
theorem userPair_ok : FnOk Try.prog 78 (pureC RngX [(.rd, true)] [false] (fun x => [x.ds]) (fun x => [[.lf (.bool (userB x))]])) := fnOk_of fun x => fnX_at tab_ok (SOk.cons iUserOk_ok (SOk.cons iUvalOk_ok SOk.nil)) mixed (fn := Try.f78) (code := body Try.f78) ⟨Try.func78, rfl, by kernel_rfl, by kernel_rfl, by kernel_rfl, by kernel_rfl⟩ (ev_userPair x)
structure DataX where
  all : List RngX
  l : List EdX
  hs : Srt all
  hk : ∀ p ∈ all, 1 ≤ p.lo.size
  h1 : all.length ≤ 200
  h2 : l.length ≤ 1048576
def cData0 : Con := pureC DataX [(.rd, false), (.rd, false)] [false] (fun x => [[.row 2 RngX.ds x.all], [.row 3 EdX.ds x.l]]) (fun x => [[.row 2 RngX.ds (dataL x.all x.l)]])
theorem ev_iData0 : ∀ x, evFnX tab [(1000002, cGh), (78, (pureC RngX [(.rd, true)] [false] (fun x => [x.ds]) (fun x => [[.lf (.bool (userB x))]]))), (79, cTake), (80, cPutP)] cData0 Try.f49 (body Try.f49) x := by
  rintro ⟨all, l, hs, hk, h1, h2⟩
  replace hs : Srt all := hs
  replace hk : ∀ p ∈ all, 1 ≤ p.lo.size := hk
  replace h1 : all.length ≤ 200 := h1
  replace h2 : l.length ≤ 1048576 := h2
  conv => whnf
  refine ⟨[.row 192], ?_⟩
  conv => whnf
  refine ⟨RngX, RngX.ds, [], fun _ => rfl, rfl, ?_⟩
  conv => whnf
  intro _
  conv => whnf
  let S0 : Nat → Sl := fun i => [(15, .lf (.int .i64 i)), (14, .lf (.int .i64 all.length)), (13, .sl 0 none), (5, .sl 192 none), (1, .sl 16 none)]
  let H0 : List RngX → Hp := fun q => [(0, some (.row .lent 2 RngX.ds all)), (16, some (.row .lent 3 EdX.ds l)), (192, some (.row .own 2 RngX.ds q))]
  refine ⟨fun m s h => ∃ i : Nat, i ≤ all.length ∧ m = all.length - i ∧ s = S0 i ∧ h = H0 ((all.take i).filterMap dataP), all.length, [(0, 0), (16, 16), (192, 192)], S0 0, H0 [], ⟨rfl, ⟨rfl, rfl, rfl, rfl, rfl, trivial⟩, rfl, rfl, rfl, trivial⟩, ⟨0, by omega, by omega, rfl, rfl⟩, ?_⟩
  rintro m _ _ ⟨i, g1, rfl, rfl, rfl⟩
  have hfl : ((all.take i).filterMap dataP).length ≤ 200 := Nat.le_trans (List.length_filterMap_le _ _) (by rw [List.length_take]; omega)
  conv => whnf
  refine br2 (fun h5 => ?_) (fun h5 => ?_)
  · have hi : i < all.length := by have := of_decide_eq_true h5; omega
    obtain ⟨y, hy⟩ := getL hi
    have hsz := hk y (List.mem_of_getElem? hy)
    have hsz1 : (1 : Int) ≤ (y.lo.size : Int) := by omega
    have hsz0 : (0 : Int) < (y.lo.size : Int) := by omega
    have hT := base_take hy
    have hd : dataP y = if bt y.lo 0 == 100 && userB ⟨subB y.lo, y.hi⟩ then some ⟨subB y.lo, y.hi⟩ else none := rfl
    have hinc := incI hi (show all.length ≤ 9223372036854775807 by omega)
    have back : ∀ {s' : Sl} {h' : Hp} (ρ : List (Nat × Nat)), Le ρ (S0 (i + 1)) (H0 ((all.take (i + 1)).filterMap dataP)) s' h' → ∃ m' ρ s'' h'', m' < all.length - i ∧ Le ρ s'' h'' s' h' ∧ ∃ i, i ≤ all.length ∧ m' = all.length - i ∧ s'' = S0 i ∧ h'' = H0 ((all.take i).filterMap dataP) := fun ρ hle =>
      ⟨all.length - (i + 1), ρ, _, _, by omega, hle, i + 1, hi, rfl, rfl, rfl⟩
    have no : dataP y = none → ∀ {s' : Sl} {h' : Hp}, Le [(0, 0), (16, 16), (192, 192)] (S0 (i + 1)) (H0 ((all.take i).filterMap dataP)) s' h' → ∃ m' ρ s'' h'', m' < all.length - i ∧ Le ρ s'' h'' s' h' ∧ ∃ i, i ≤ all.length ∧ m' = all.length - i ∧ s'' = S0 i ∧ h'' = H0 ((all.take i).filterMap dataP) := fun e _ _ hle => by
      rw [e] at hT
      exact back _ (by rw [hT, Option.toList, List.append_nil]; exact hle)
    conv => whnf
    refine ⟨Int.natCast_nonneg _, ltI hy, ?_⟩
    conv => whnf
    refine ex2 _ (nthI hy) ?_
    conv => whnf
    refine ⟨by decide, hsz1, Int.le_refl _, ?_⟩
    conv => whnf
    repeat (refine rc_i (by (conv => whnf); first | rfl | exact fun _ => rfl | exact ⟨by decide, hsz1, Int.le_refl _, rfl⟩) ?_; conv => whnf)
    refine ⟨Int.le_refl _, hsz0, ?_⟩
    conv => whnf
    refine br2 (fun h6 => ?_) (fun h6 => ?_)
    · replace h6 : (bt y.lo 0 == 100) = true := h6
      rw [h6] at hd
      conv => whnf
      refine ⟨⟨subB y.lo, y.hi⟩, rfl, ?_⟩
      rintro _ _ ⟨rfl, rfl⟩
      conv => whnf
      refine br2 (fun h7 => ?_) (fun h7 => ?_)
      · replace h7 : userB ⟨subB y.lo, y.hi⟩ = true := h7
        rw [h7] at hd
        conv => whnf
        refine ⟨[⟨subB y.lo, y.hi⟩], rfl, (show ((all.take i).filterMap dataP).length + 1 ≤ 4294967296 by omega), ?_⟩
        conv => whnf
        refine back [(0, 0), (16, 16), (576, 192)] ⟨rfl, ⟨hinc, rfl, rfl, rfl, rfl, trivial⟩, rfl, rfl, ?_, trivial⟩
        rw [hT, hd]; rfl
      · replace h7 : userB ⟨subB y.lo, y.hi⟩ = false := h7
        rw [h7] at hd
        conv => whnf
        exact no hd ⟨rfl, ⟨hinc, rfl, rfl, rfl, rfl, trivial⟩, rfl, rfl, rfl, trivial⟩
    · replace h6 : (bt y.lo 0 == 100) = false := h6
      rw [h6] at hd
      conv => whnf
      exact no hd ⟨rfl, ⟨hinc, rfl, rfl, rfl, rfl, trivial⟩, rfl, rfl, rfl, trivial⟩
  · have hi : i = all.length := by have := of_decide_eq_false h5; omega
    subst hi
    clear h5
    rw [List.take_length]
    rw [List.take_length] at hfl
    have hbs := base_srt hs hk
    generalize hb : all.filterMap dataP = b at *
    conv => whnf
    intro _
    conv => whnf
    let S1 : Nat → Sl := fun i => [(40, .lf (.int .i64 i)), (39, .lf (.int .i64 l.length)), (38, .sl 16 none), (5, .sl 192 none)]
    let H1 : List RngX → Hp := fun q => [(16, some (.row .lent 3 EdX.ds l)), (192, some (.row .own 2 RngX.ds q))]
    refine ⟨fun m s h => ∃ i : Nat, i ≤ l.length ∧ m = l.length - i ∧ s = S1 i ∧ h = H1 ((l.take i).foldl editL b), l.length, [(16, 16), (192, 192)], S1 0, H1 b, ⟨rfl, ⟨rfl, rfl, rfl, rfl, trivial⟩, rfl, rfl, trivial⟩, ⟨0, by omega, by omega, rfl, rfl⟩, ?_⟩
    rintro m _ _ ⟨i, g1, rfl, rfl, rfl⟩
    obtain ⟨q1, q2⟩ := fold_srt hbs (l.take i)
    rw [List.length_take] at q2
    conv => whnf
    refine br2 (fun h5 => ?_) (fun h5 => ?_)
    · have hi : i < l.length := by have := of_decide_eq_true h5; omega
      obtain ⟨y, hy⟩ := getL hi
      have hT := fold_take b hy
      have hinc := incI hi (show l.length ≤ 9223372036854775807 by omega)
      obtain ⟨ky, vy, gy⟩ := y
      have he : ∀ q, editL q ⟨ky, vy, gy⟩ = if userB ⟨ky, vy⟩ then if gy then delL ky q else insL ⟨ky, vy⟩ q else q := fun q => rfl
      rw [he] at hT
      generalize hq : (l.take i).foldl editL b = q at *
      have back : ∀ {s' : Sl} {h' : Hp} (ρ : List (Nat × Nat)), Le ρ (S1 (i + 1)) (H1 ((l.take (i + 1)).foldl editL b)) s' h' → ∃ m' ρ s'' h'', m' < l.length - i ∧ Le ρ s'' h'' s' h' ∧ ∃ i, i ≤ l.length ∧ m' = l.length - i ∧ s'' = S1 i ∧ h'' = H1 ((l.take i).foldl editL b) := fun ρ hle =>
        ⟨l.length - (i + 1), ρ, _, _, by omega, hle, i + 1, hi, rfl, rfl, rfl⟩
      conv => whnf
      refine ⟨Int.natCast_nonneg _, ltI hy, ?_⟩
      conv => whnf
      refine ex2 _ (nthI hy) ?_
      conv => whnf
      refine ⟨⟨ky, vy⟩, rfl, ?_⟩
      rintro _ _ ⟨rfl, rfl⟩
      conv => whnf
      refine br2 (fun h6 => ?_) (fun h6 => ?_)
      · replace h6 : userB ⟨ky, vy⟩ = false := by
          replace h6 : (!userB ⟨ky, vy⟩) = true := h6
          simpa using h6
        rw [h6] at hT
        conv => whnf
        refine back [(16, 16), (192, 192)] ⟨rfl, ⟨hinc, rfl, rfl, rfl, trivial⟩, rfl, ?_, trivial⟩
        rw [hT]; rfl
      · replace h6 : userB ⟨ky, vy⟩ = true := by
          replace h6 : (!userB ⟨ky, vy⟩) = false := h6
          simpa using h6
        rw [h6] at hT
        cases gy with
        | true =>
          conv => whnf
          refine ⟨⟨q, ky, by omega⟩, rfl, ?_⟩
          rintro _ _ ⟨rfl, rfl⟩
          conv => whnf
          refine back [(16, 16), (912, 192)] ⟨rfl, ⟨hinc, rfl, rfl, rfl, trivial⟩, rfl, ?_, trivial⟩
          rw [hT]; rfl
        | false =>
          conv => whnf
          refine ⟨⟨q, ⟨ky, vy⟩, q1, by omega⟩, rfl, ?_⟩
          rintro _ _ ⟨rfl, rfl⟩
          conv => whnf
          refine back [(16, 16), (960, 192)] ⟨rfl, ⟨hinc, rfl, rfl, rfl, trivial⟩, rfl, ?_, trivial⟩
          rw [hT]; rfl
    · have hi : i = l.length := by have := of_decide_eq_false h5; omega
      subst hi
      conv => whnf
      refine ⟨⟨rfl, ?_⟩⟩
      show [[D.row 2 RngX.ds ((l.take l.length).foldl editL b)]] = [[D.row 2 RngX.ds (dataL all l)]]
      rw [List.take_length, ← hb]; rfl
theorem iData0_ok : FnOk Try.prog 49 cData0 := fnOk_of fun x => fnX_at tab_ok (SOk.cons gh_ok (SOk.cons userPair_ok (SOk.cons iTake_ok (SOk.cons putP_ok SOk.nil)))) mixed (fn := Try.f49) (code := body Try.f49) ⟨Try.func49, rfl, by kernel_rfl, by kernel_rfl, by kernel_rfl, by kernel_rfl⟩ (ev_iData0 x)
end Go.Vm
namespace Go.Vm
open Go.Proofs
set_option maxRecDepth 100000
set_option linter.unusedVariables false
set_option linter.unusedSimpArgs false

structure PutEX where
  l : List RngX
  e : EdX
  hs : Srt l
  hl : l.length ≤ 2000000
def cPutE : Con := pureC PutEX [(.rd, false), (.rd, true)] [false] (fun x => [[.row 2 RngX.ds x.l], x.e.ds]) (fun x => [[.row 2 RngX.ds (if x.e.gone then delL x.e.key x.l else insL x.e.p x.l)]])
theorem delL_snoc {k : ByteArray} {l : List RngX} {i : Nat} {y : RngX} (hy : l[i]? = some y) : delL k (l.take (i + 1)) = delL k (l.take i) ++ if y.lo = k then [] else [y] := by
  rw [List.take_add_one, hy, delL_app]
  congr 1
  unfold delL
  by_cases e : y.lo = k
  · rw [if_pos e]; simp [eqK_iff.2 e]
  · rw [if_neg e]
    have : eqK y.lo k = false := by
      cases h : eqK y.lo k with
      | false => rfl
      | true => exact absurd (eqK_iff.1 h) e
    simp [this]
theorem ev_l10Put : ∀ x, evFnX tab [(1000003, cGh)] cPutE Try.f46 (body Try.f46) x := by
  rintro ⟨l, ⟨k, v, g⟩, hs, hl⟩
  replace hs : Srt l := hs
  replace hl : l.length ≤ 2000000 := hl
  have hinc := fun i (hi : i < l.length) => incI hi (show l.length ≤ 9223372036854775807 by omega)
  let S0 : Bool → Nat → Bool → Sl := fun g i d => [(14, .lf (.int .i64 i)), (13, .lf (.int .i64 l.length)), (12, .sl 0 none), (5, .sl 144 none), (6, .lf (.bool d)), (3, .pt 48 0 0)]
  let H0 : Bool → List RngX → Hp := fun g q => [(0, some (.row .lent 2 RngX.ds l)), (144, some (.row .own 2 RngX.ds q)), (48, some (.arr true 3 [[.lf (.string k), .lf (.string v), .lf (.bool g)]]))]
  cases g with
  | true =>
    conv => whnf
    refine ⟨[.row 144], ?_⟩
    conv => whnf
    refine ⟨RngX, RngX.ds, [], fun _ => rfl, rfl, ?_⟩
    conv => whnf
    intro _
    conv => whnf
    refine ⟨fun m s h => ∃ i : Nat, i ≤ l.length ∧ m = l.length - i ∧ s = S0 true i true ∧ h = H0 true (delL k (l.take i)), l.length, [(0, 0), (144, 144), (48, 48)], S0 true 0 true, H0 true [], ⟨rfl, ⟨rfl, rfl, rfl, rfl, rfl, rfl, trivial⟩, rfl, rfl, rfl, trivial⟩, ⟨0, by omega, by omega, rfl, rfl⟩, ?_⟩
    rintro m _ _ ⟨i, g1, rfl, rfl, rfl⟩
    have hdl := delL_len k (l.take i)
    rw [List.length_take] at hdl
    conv => whnf
    refine br2 (fun h5 => ?_) (fun h5 => ?_)
    · have hi : i < l.length := by have := of_decide_eq_true h5; omega
      obtain ⟨y, hy⟩ := getL hi
      have hT := delL_snoc (k := k) hy
      have back : ∀ {s' : Sl} {h' : Hp} (ρ : List (Nat × Nat)), Le ρ (S0 true (i + 1) true) (H0 true (delL k (l.take (i + 1)))) s' h' → ∃ m' ρ s'' h'', m' < l.length - i ∧ Le ρ s'' h'' s' h' ∧ ∃ i, i ≤ l.length ∧ m' = l.length - i ∧ s'' = S0 true i true ∧ h'' = H0 true (delL k (l.take i)) := fun ρ hle =>
        ⟨l.length - (i + 1), ρ, _, _, by omega, hle, i + 1, hi, rfl, rfl, rfl⟩
      conv => whnf
      refine ⟨Int.natCast_nonneg _, ltI hy, ?_⟩
      conv => whnf
      refine ex2 _ (nthI hy) ?_
      conv => whnf
      refine br2 (fun h6 => ?_) (fun h6 => ?_)
      · have h6' : y.lo ≠ k := fun e => by
          replace h6 : (!strEq y.lo k) = true := h6
          rw [e, strEq_refl] at h6; cases h6
        rw [if_neg h6'] at hT
        conv => whnf
        refine ⟨[y], rfl, (show (delL k (l.take i)).length + 1 ≤ 4294967296 by omega), ?_⟩
        conv => whnf
        refine back [(0, 0), (688, 144), (48, 48)] ⟨rfl, ⟨hinc i hi, rfl, rfl, rfl, rfl, rfl, trivial⟩, rfl, ?_, rfl, trivial⟩
        rw [hT]; rfl
      · have h6' : y.lo = k := by
          replace h6 : (!strEq y.lo k) = false := h6
          exact strEq_iff.1 (by simpa using h6)
        rw [if_pos h6', List.append_nil] at hT
        conv => whnf
        refine back [(0, 0), (144, 144), (48, 48)] ⟨rfl, ⟨hinc i hi, rfl, rfl, rfl, rfl, rfl, trivial⟩, rfl, ?_, rfl, trivial⟩
        rw [hT]; rfl
    · have hi : i = l.length := by have := of_decide_eq_false h5; omega
      subst hi
      conv => whnf
      refine ⟨⟨rfl, ?_⟩⟩
      show [[D.row 2 RngX.ds (delL k (l.take l.length))]] = [[D.row 2 RngX.ds (delL k l)]]
      rw [List.take_length]
  | false =>
    conv => whnf
    refine ⟨[.row 144], ?_⟩
    conv => whnf
    refine ⟨RngX, RngX.ds, [], fun _ => rfl, rfl, ?_⟩
    conv => whnf
    intro _
    conv => whnf
    refine ⟨fun m s h => ∃ (i : Nat) (d : Bool) (q : List RngX), i ≤ l.length ∧ InsI ⟨k, v⟩ l i d q ∧ m = l.length - i ∧ s = S0 false i d ∧ h = H0 false q, l.length, [(0, 0), (144, 144), (48, 48)], S0 false 0 false, H0 false [], ⟨rfl, ⟨rfl, rfl, rfl, rfl, rfl, rfl, trivial⟩, rfl, rfl, rfl, trivial⟩, ⟨0, false, [], by omega, ⟨fun _ => ⟨rfl, by simp⟩, fun h => by cases h⟩, by omega, rfl, rfl⟩, ?_⟩
    rintro m _ _ ⟨i, d, q, g1, g2, rfl, rfl, rfl⟩
    have hql := g2.len g1
    conv => whnf
    refine br2 (fun h5 => ?_) (fun h5 => ?_)
    · have hi : i < l.length := by have := of_decide_eq_true h5; omega
      obtain ⟨y, hy⟩ := getL hi
      have back : ∀ {s' : Sl} {h' : Hp} (ρ : List (Nat × Nat)) (d' : Bool) (q' : List RngX), InsI ⟨k, v⟩ l (i + 1) d' q' → Le ρ (S0 false (i + 1) d') (H0 false q') s' h' → ∃ m' ρ s'' h'', m' < l.length - i ∧ Le ρ s'' h'' s' h' ∧ ∃ (i : Nat) (d : Bool) (q : List RngX), i ≤ l.length ∧ InsI ⟨k, v⟩ l i d q ∧ m' = l.length - i ∧ s'' = S0 false i d ∧ h'' = H0 false q := fun ρ d' q' hI hle =>
        ⟨l.length - (i + 1), ρ, _, _, by omega, hle, i + 1, d', q', hi, hI, rfl, rfl, rfl⟩
      cases d with
      | true =>
        obtain ⟨hI, hne⟩ := g2.more hy
        replace hne : y.lo ≠ k := hne
        have hne2 : (!strEq y.lo k) = true := by rw [strEq_no.2 hne]; rfl
        conv => whnf
        refine ⟨Int.natCast_nonneg _, ltI hy, ?_⟩
        conv => whnf
        refine ex2 _ (nthI hy) ?_
        conv => whnf
        refine br2 (fun h6 => ?_) (fun h6 => ?_)
        · conv => whnf
          refine ⟨[y], rfl, (show q.length + 1 ≤ 4294967296 by omega), ?_⟩
          conv => whnf
          exact back [(0, 0), (688, 144), (48, 48)] true (q ++ [y]) hI ⟨rfl, ⟨hinc i hi, rfl, rfl, rfl, rfl, rfl, trivial⟩, rfl, rfl, rfl, trivial⟩
        · exact absurd (hne2.symm.trans h6) (by simp)
      | false =>
        conv => whnf
        refine ⟨Int.natCast_nonneg _, ltI hy, ?_⟩
        conv => whnf
        refine ex2 _ (nthI hy) ?_
        conv => whnf
        refine br2 (fun h6 => ?_) (fun h6 => ?_)
        · replace h6 : (strLt k y.lo || strEq k y.lo) = true := h6
          conv => whnf
          refine ⟨[⟨k, v⟩], rfl, (show q.length + 1 ≤ 4294967296 by omega), ?_⟩
          conv => whnf
          refine br2 (fun h7 => ?_) (fun h7 => ?_)
          · have hne : y.lo ≠ k := fun e => by
              replace h7 : (!strEq y.lo k) = true := h7
              rw [e, strEq_refl] at h7; cases h7
            have hlt : strLt k y.lo = true := by
              rcases Bool.or_eq_true_iff.1 h6 with h | h
              · exact h
              · exact absurd (strEq_iff.1 h).symm hne
            conv => whnf
            refine ⟨[y], rfl, (show (q ++ [(⟨k, v⟩ : RngX)]).length + 1 ≤ 4294967296 by rw [List.length_append]; simp; omega), ?_⟩
            conv => whnf
            exact back [(0, 0), (688, 144), (48, 48)] true (q ++ [⟨k, v⟩] ++ [y]) (g2.new hs hy hlt) ⟨rfl, ⟨hinc i hi, rfl, rfl, rfl, rfl, rfl, trivial⟩, rfl, (by rfl), rfl, trivial⟩
          · have heq : y.lo = k := by
              replace h7 : (!strEq y.lo k) = false := h7
              exact strEq_iff.1 (by simpa using h7)
            conv => whnf
            exact back [(0, 0), (544, 144), (48, 48)] true (q ++ [⟨k, v⟩]) (g2.hit hs hy heq) ⟨rfl, ⟨hinc i hi, rfl, rfl, rfl, rfl, rfl, trivial⟩, rfl, (by rfl), rfl, trivial⟩
        · replace h6 : (strLt k y.lo || strEq k y.lo) = false := h6
          have hlt : strLt y.lo k = true := by
            have := strLt_flip k y.lo
            rw [h6] at this; exact this
          have hne2 : (!strEq y.lo k) = true := by rw [strEq_no.2 (lt_ne hlt)]; rfl
          conv => whnf
          refine br2 (fun h7 => ?_) (fun h7 => ?_)
          · conv => whnf
            refine ⟨[y], rfl, (show q.length + 1 ≤ 4294967296 by omega), ?_⟩
            conv => whnf
            exact back [(0, 0), (688, 144), (48, 48)] false (q ++ [y]) (g2.skip hy hlt) ⟨rfl, ⟨hinc i hi, rfl, rfl, rfl, rfl, rfl, trivial⟩, rfl, rfl, rfl, trivial⟩
          · exact absurd (hne2.symm.trans h7) (by simp)
    · have hi : i = l.length := by have := of_decide_eq_false h5; omega
      subst hi
      have hall := g2.all
      have fin : ∀ q' : List RngX, q' = insL ⟨k, v⟩ l → [[D.row 2 RngX.ds q']] = [[D.row 2 RngX.ds (if false = true then delL k l else insL ⟨k, v⟩ l)]] := fun q' h => by rw [h]; rfl
      cases d with
      | true =>
        conv => whnf
        exact ⟨⟨rfl, fin _ hall⟩⟩
      | false =>
        conv => whnf
        refine ⟨[⟨k, v⟩], rfl, (show q.length + 1 ≤ 4294967296 by omega), ?_⟩
        conv => whnf
        exact ⟨⟨rfl, fin _ hall⟩⟩
theorem l10Put_ok : FnOk Try.prog 46 cPutE := fnOk_of fun x => fnX_at tab_ok (SOk.cons gh_ok SOk.nil) mixed (fn := Try.f46) (code := body Try.f46) ⟨Try.func46, rfl, by kernel_rfl, by kernel_rfl, by kernel_rfl, by kernel_rfl⟩ (ev_l10Put x)
end Go.Vm
namespace Go.Vm
open Go.Proofs
set_option maxRecDepth 100000
set_option linter.unusedVariables false
set_option linter.unusedSimpArgs false

structure DataTX where
  t : TreeX
  l : List EdX
  hl : l.length ≤ 1048576
structure DataR (N : List NodeX) (l : List EdX) (q : List RngX) : Prop where
  yes : ∀ o, Vo o → N = layO o → q = dataL (allO o) l
  no : ¬ TreeP N → q = []
def cData : Con := relC DataTX [(.rd, true), (.rd, false)] [false] (fun x => [[.row 3 NodeX.ds x.t.N], [.row 3 EdX.ds x.l]]) (fun x r => ∃ q, r = [[.row 2 RngX.ds q]] ∧ DataR x.t.N x.l q)
theorem DataR.of {N : List NodeX} {l : List EdX} {a : List RngX} (h : AllR N a) (hT : TreeP N) : DataR N l (dataL a l) := ⟨fun o h1 h2 => by rw [h.yes o h1 h2], fun h => absurd hT h⟩
theorem keys_pos {a : List RngX} (h : PairsOkP a) : ∀ p ∈ a, 1 ≤ p.lo.size := fun p hp => by
  have h2 := h.ok p hp
  have h3 : (keyOkB p.lo && decide (p.hi.size ≤ 60)) = true := h2
  rw [Bool.and_eq_true] at h3
  have h4 : (decide (1 ≤ p.lo.size) && decide (p.lo.size ≤ 16)) = true := h3.1
  rw [Bool.and_eq_true] at h4
  exact of_decide_eq_true h4.1
theorem ev_iData : ∀ x, evFnX tab [(48, cTreeOk), (50, cTreeAll), (49, cData0)] cData Try.f16 (body Try.f16) x := by
  rintro ⟨⟨N, f, hf, hN, hp⟩, l, hl⟩
  conv => whnf
  refine ⟨⟨N, f, hf, hN, hp⟩, rfl, ?_⟩
  rintro _ _ ⟨rfl, b, rfl, e⟩
  conv => whnf
  replace e : b = true ↔ TreeP N := e
  cases b with
  | false =>
    have h1' : ¬ TreeP N := fun h => by have := e.2 h; cases this
    conv => whnf
    refine ⟨2, RngX, RngX.ds, fun _ => rfl, ?_⟩
    conv => whnf
    exact ⟨⟨rfl, [], rfl, fun o h1 h2 => absurd ⟨o, h1, h2⟩ h1', fun _ => rfl⟩⟩
  | true =>
  have hT := e.1 rfl
  conv => whnf
  refine ⟨⟨N, f, hf, hN, hp⟩, rfl, ?_⟩
  rintro _ _ ⟨rfl, a, rfl, al⟩
  conv => whnf
  replace al : AllR N a := al
  have hok := al.okk
  refine ⟨⟨a, l, hok.srt, keys_pos hok, hok.len, hl⟩, rfl, ?_⟩
  rintro _ _ ⟨rfl, rfl⟩
  conv => whnf
  exact ⟨⟨rfl, _, rfl, DataR.of al hT⟩⟩
theorem iData_ok : FnOk Try.prog 16 cData := fnOk_of fun x => fnX_at tab_ok (SOk.cons iTreeOk_ok (SOk.cons iTreeAll_ok (SOk.cons iData0_ok SOk.nil))) mixed (fn := Try.f16) (code := body Try.f16) ⟨Try.func16, rfl, by kernel_rfl, by kernel_rfl, by kernel_rfl, by kernel_rfl⟩ (ev_iData x)
theorem ev_sData : ∀ x, evFnX tab [(25, cTreeOk), (43, cTreeAll), (44, cUserOk), (45, cUvalOk), (46, cPutE), (1000004, cGh)] cData Try.f14 (body Try.f14) x := by
  rintro ⟨⟨N, f, hf, hN, hp⟩, l, hl⟩
  replace hl : l.length ≤ 1048576 := hl
  conv => whnf
  refine ⟨⟨N, f, hf, hN, hp⟩, rfl, ?_⟩
  rintro _ _ ⟨rfl, b, rfl, e⟩
  conv => whnf
  replace e : b = true ↔ TreeP N := e
  cases b with
  | false =>
    have h1' : ¬ TreeP N := fun h => by have := e.2 h; cases this
    conv => whnf
    refine ⟨2, RngX, RngX.ds, fun _ => rfl, ?_⟩
    conv => whnf
    exact ⟨⟨rfl, [], rfl, fun o h1 h2 => absurd ⟨o, h1, h2⟩ h1', fun _ => rfl⟩⟩
  | true =>
  have hT := e.1 rfl
  conv => whnf
  refine ⟨[.row 208], ?_⟩
  conv => whnf
  refine ⟨RngX, RngX.ds, [], fun _ => rfl, rfl, ?_⟩
  conv => whnf
  refine ⟨⟨N, f, hf, hN, hp⟩, rfl, ?_⟩
  rintro _ _ ⟨rfl, a, rfl, al⟩
  conv => whnf
  replace al : AllR N a := al
  have hok := al.okk
  have hs := hok.srt
  have h1 := hok.len
  have hk := keys_pos hok
  intro _
  conv => whnf
  let S0 : Nat → Sl := fun i => [(17, .lf (.int .i64 i)), (16, .lf (.int .i64 a.length)), (15, .sl 240 none), (5, .sl 208 none), (1, .sl 16 none)]
  let H0 : List RngX → Hp := fun q => [(240, some (.row .own 2 RngX.ds a)), (16, some (.row .lent 3 EdX.ds l)), (208, some (.row .own 2 RngX.ds q))]
  refine ⟨fun m s h => ∃ i : Nat, i ≤ a.length ∧ m = a.length - i ∧ s = S0 i ∧ h = H0 ((a.take i).filterMap dataP), a.length, [(240, 240), (16, 16), (208, 208)], S0 0, H0 [], ⟨rfl, ⟨rfl, rfl, rfl, rfl, rfl, trivial⟩, rfl, rfl, rfl, trivial⟩, ⟨0, by omega, by omega, rfl, rfl⟩, ?_⟩
  rintro m _ _ ⟨i, g1, rfl, rfl, rfl⟩
  have hfl : ((a.take i).filterMap dataP).length ≤ 200 := Nat.le_trans (List.length_filterMap_le _ _) (by rw [List.length_take]; omega)
  conv => whnf
  refine br2 (fun h5 => ?_) (fun h5 => ?_)
  · have hi : i < a.length := by have := of_decide_eq_true h5; omega
    obtain ⟨y, hy⟩ := getL hi
    have hsz := hk y (List.mem_of_getElem? hy)
    have hsz1 : (1 : Int) ≤ (y.lo.size : Int) := by omega
    have hsz0 : (0 : Int) < (y.lo.size : Int) := by omega
    have hT := base_take hy
    have hd : dataP y = if bt y.lo 0 == 100 && (userOkB (subB y.lo) && uvalOkB y.hi) then some ⟨subB y.lo, y.hi⟩ else none := rfl
    have hinc := incI hi (show a.length ≤ 9223372036854775807 by omega)
    have back : ∀ {s' : Sl} {h' : Hp} (ρ : List (Nat × Nat)), Le ρ (S0 (i + 1)) (H0 ((a.take (i + 1)).filterMap dataP)) s' h' → ∃ m' ρ s'' h'', m' < a.length - i ∧ Le ρ s'' h'' s' h' ∧ ∃ i, i ≤ a.length ∧ m' = a.length - i ∧ s'' = S0 i ∧ h'' = H0 ((a.take i).filterMap dataP) := fun ρ hle =>
      ⟨a.length - (i + 1), ρ, _, _, by omega, hle, i + 1, hi, rfl, rfl, rfl⟩
    have no : dataP y = none → ∀ {s' : Sl} {h' : Hp}, Le [(240, 240), (16, 16), (208, 208)] (S0 (i + 1)) (H0 ((a.take i).filterMap dataP)) s' h' → ∃ m' ρ s'' h'', m' < a.length - i ∧ Le ρ s'' h'' s' h' ∧ ∃ i, i ≤ a.length ∧ m' = a.length - i ∧ s'' = S0 i ∧ h'' = H0 ((a.take i).filterMap dataP) := fun e _ _ hle => by
      rw [e] at hT
      exact back _ (by rw [hT, Option.toList, List.append_nil]; exact hle)
    conv => whnf
    refine ⟨Int.natCast_nonneg _, ltI hy, ?_⟩
    conv => whnf
    refine ex2 _ (nthI hy) ?_
    conv => whnf
    refine ⟨Int.le_refl _, hsz0, ?_⟩
    conv => whnf
    refine br2 (fun h6 => ?_) (fun h6 => ?_)
    · replace h6 : (bt y.lo 0 == 100) = true := h6
      rw [h6] at hd
      conv => whnf
      refine ⟨by decide, hsz1, Int.le_refl _, ?_⟩
      conv => whnf
      refine ⟨(subB y.lo), rfl, ?_⟩
      rintro _ _ ⟨rfl, rfl⟩
      conv => whnf
      cases h7 : userOkB (subB y.lo) with
      | false =>
        rw [h7] at hd
        conv => whnf
        exact no hd ⟨rfl, ⟨hinc, rfl, rfl, rfl, rfl, trivial⟩, rfl, rfl, rfl, trivial⟩
      | true =>
      rw [h7] at hd
      conv => whnf
      refine ⟨y.hi, rfl, ?_⟩
      rintro _ _ ⟨rfl, rfl⟩
      conv => whnf
      cases h8 : uvalOkB y.hi with
      | false =>
        rw [h8] at hd
        conv => whnf
        exact no hd ⟨rfl, ⟨hinc, rfl, rfl, rfl, rfl, trivial⟩, rfl, rfl, rfl, trivial⟩
      | true =>
      rw [h8] at hd
      conv => whnf
      refine ⟨by decide, hsz1, Int.le_refl _, ?_⟩
      conv => whnf
      repeat (refine rc_i (by (conv => whnf); first | rfl | exact fun _ => rfl | exact ⟨by decide, hsz1, Int.le_refl _, rfl⟩) ?_; conv => whnf)
      refine ⟨[⟨subB y.lo, y.hi⟩], rfl, (show ((a.take i).filterMap dataP).length + 1 ≤ 4294967296 by omega), ?_⟩
      conv => whnf
      repeat (refine rc_i (by (conv => whnf); first | rfl | exact fun _ => rfl | exact ⟨by decide, hsz1, Int.le_refl _, rfl⟩) ?_; conv => whnf)
      refine back [(240, 240), (16, 16), (704, 208)] ⟨rfl, ⟨hinc, rfl, rfl, rfl, rfl, trivial⟩, rfl, rfl, ?_, trivial⟩
      rw [hT, hd]; rfl
    · replace h6 : (bt y.lo 0 == 100) = false := h6
      rw [h6] at hd
      conv => whnf
      exact no hd ⟨rfl, ⟨hinc, rfl, rfl, rfl, rfl, trivial⟩, rfl, rfl, rfl, trivial⟩
  · have hi : i = a.length := by have := of_decide_eq_false h5; omega
    subst hi
    clear h5
    rw [List.take_length]
    rw [List.take_length] at hfl
    have hbs := base_srt hs hk
    have fin := DataR.of (l := l) al hT
    have hdl : dataL a l = l.foldl editL (a.filterMap dataP) := rfl
    generalize a.filterMap dataP = b at *
    conv => whnf
    intro _
    conv => whnf
    let S1 : Nat → Sl := fun i => [(48, .lf (.int .i64 i)), (47, .lf (.int .i64 l.length)), (46, .sl 16 none), (5, .sl 208 none)]
    let H1 : List RngX → Hp := fun q => [(16, some (.row .lent 3 EdX.ds l)), (208, some (.row .own 2 RngX.ds q))]
    refine ⟨fun m s h => ∃ i : Nat, i ≤ l.length ∧ m = l.length - i ∧ s = S1 i ∧ h = H1 ((l.take i).foldl editL b), l.length, [(16, 16), (208, 208)], S1 0, H1 b, ⟨rfl, ⟨rfl, rfl, rfl, rfl, trivial⟩, rfl, rfl, trivial⟩, ⟨0, by omega, by omega, rfl, rfl⟩, ?_⟩
    rintro m _ _ ⟨i, g1, rfl, rfl, rfl⟩
    obtain ⟨q1, q2⟩ := fold_srt hbs (l.take i)
    rw [List.length_take] at q2
    conv => whnf
    refine br2 (fun h5 => ?_) (fun h5 => ?_)
    · have hi : i < l.length := by have := of_decide_eq_true h5; omega
      obtain ⟨y, hy⟩ := getL hi
      have hT2 := fold_take b hy
      have hinc := incI hi (show l.length ≤ 9223372036854775807 by omega)
      obtain ⟨ky, vy, gy⟩ := y
      have he : ∀ q, editL q ⟨ky, vy, gy⟩ = if userOkB ky && uvalOkB vy then (if gy then delL ky q else insL ⟨ky, vy⟩ q) else q := fun q => rfl
      rw [he] at hT2
      generalize hq : (l.take i).foldl editL b = q at *
      have back : ∀ {s' : Sl} {h' : Hp} (ρ : List (Nat × Nat)), Le ρ (S1 (i + 1)) (H1 ((l.take (i + 1)).foldl editL b)) s' h' → ∃ m' ρ s'' h'', m' < l.length - i ∧ Le ρ s'' h'' s' h' ∧ ∃ i, i ≤ l.length ∧ m' = l.length - i ∧ s'' = S1 i ∧ h'' = H1 ((l.take i).foldl editL b) := fun ρ hle =>
        ⟨l.length - (i + 1), ρ, _, _, by omega, hle, i + 1, hi, rfl, rfl, rfl⟩
      conv => whnf
      refine ⟨Int.natCast_nonneg _, ltI hy, ?_⟩
      conv => whnf
      refine ex2 _ (nthI hy) ?_
      conv => whnf
      refine ⟨ky, rfl, ?_⟩
      rintro _ _ ⟨rfl, rfl⟩
      conv => whnf
      cases h7 : userOkB ky with
      | false =>
        rw [h7] at hT2
        conv => whnf
        refine back [(16, 16), (208, 208)] ⟨rfl, ⟨hinc, rfl, rfl, rfl, trivial⟩, rfl, ?_, trivial⟩
        rw [hT2]; rfl
      | true =>
      rw [h7] at hT2
      conv => whnf
      refine ⟨vy, rfl, ?_⟩
      rintro _ _ ⟨rfl, rfl⟩
      conv => whnf
      cases h8 : uvalOkB vy with
      | false =>
        rw [h8] at hT2
        conv => whnf
        refine back [(16, 16), (208, 208)] ⟨rfl, ⟨hinc, rfl, rfl, rfl, trivial⟩, rfl, ?_, trivial⟩
        rw [hT2]; rfl
      | true =>
      rw [h8] at hT2
      conv => whnf
      refine ⟨⟨q, ⟨ky, vy, gy⟩, q1, by omega⟩, rfl, ?_⟩
      rintro _ _ ⟨rfl, rfl⟩
      conv => whnf
      refine back [(16, 16), (992, 208)] ⟨rfl, ⟨hinc, rfl, rfl, rfl, trivial⟩, rfl, ?_, trivial⟩
      rw [hT2]; rfl
    · have hi : i = l.length := by have := of_decide_eq_false h5; omega
      subst hi
      conv => whnf
      rw [List.take_length]
      exact ⟨⟨rfl, _, rfl, by rw [← hdl]; exact fin⟩⟩
theorem sData_ok : FnOk Try.prog 14 cData := fnOk_of fun x => fnX_at tab_ok (SOk.cons sTreeOk_ok (SOk.cons sTreeAll_ok (SOk.cons sUserOk_ok (SOk.cons sUvalOk_ok (SOk.cons l10Put_ok (SOk.cons gh_ok SOk.nil)))))) mixed (fn := Try.f14) (code := body Try.f14) ⟨Try.func14, rfl, by kernel_rfl, by kernel_rfl, by kernel_rfl, by kernel_rfl⟩ (ev_sData x)
end Go.Vm
namespace Go.Vm
open Go.Proofs
set_option maxRecDepth 100000
set_option linter.unusedVariables false
set_option linter.unusedSimpArgs false

/-- What marks leave behind: the outs, the next number. -/
def cMarkW {X : Type} (sz : Nat) (ds : X → List D) (mark : Int → Nat → List X) (w : Int) : Con :=
  { X := { x : MarkX (List X) // x.x.length ≤ 2097152 }, params := [(.mut, false), (.rd, false)], res := [false], resOwn := true, ins := fun x => [[.row sz ds x.1.x], [.lf (.int .i64 x.1.k)]],
    post := fun x outs r => outs = [[.row sz ds (mark x.1.k x.1.x.length)]] ∧ r = [[.lf (.int .i64 (x.1.k + w * x.1.x.length))]] }
def cHeldW {X : Type} (sz : Nat) (ds : X → List D) (mark : Int → Nat → List X) (w : Int) : Con :=
  { X := { x : MarkX Nat // x.x ≤ 2097152 }, params := [(.rd, false), (.rd, false)], res := [false], resOwn := true, ins := fun x => [[.row sz ds (mark x.1.k x.1.x)], [.lf (.int .i64 x.1.k)]],
    post := fun x outs r => outs = [] ∧ r = [[.lf (.int .i64 (x.1.k + w * x.1.x))]] }
theorem ev_markPairW : ∀ x, evFnX tab [(53, (pureC MkX [(.rd, false)] [false] (fun x => [[.lf (.int .i64 x.n)]]) (fun x => [[.lf (.string (mkT x.n))]])))] (cMarkW 2 RngX.ds markP 2) Try.f20 (body Try.f20) x := by
  rintro ⟨⟨l, k, h1, h2⟩, hl⟩
  replace hl : l.length ≤ 2097152 := hl
  conv => whnf
  refine ⟨fun m s h => ∃ (i : Nat) (l' : List RngX), i ≤ l.length ∧ l'.length = l.length ∧ (∀ j, j < i → l'[j]? = some (pairAt (k + 2 * (j : Int)))) ∧ m = l.length - i ∧ s = [(0, .sl 0 none), (1, .lf (.int .i64 (k + 2 * (i : Int)))), (5, .lf (.int .i64 i)), (1000000, .sl 0 none)] ∧ h = [(0, some (.row .own 2 RngX.ds l'))],
    l.length, [(0, 0)], [(0, .sl 0 none), (1, .lf (.int .i64 k)), (5, .lf (.int .i64 0)), (1000000, .sl 0 none)], [(0, some (.row .own 2 RngX.ds l))], ⟨rfl, ⟨rfl, rfl, rfl, rfl, trivial⟩, rfl, trivial⟩, ⟨0, l, by omega, rfl, fun j h => by omega, by omega, by simp, rfl⟩, ?_⟩
  rintro m _ _ ⟨i, l', g1, g2, g3, rfl, rfl, rfl⟩
  conv => whnf
  intro _
  conv => whnf
  refine br2 (fun h5 => ?_) (fun h5 => ?_)
  · have hi : i < l.length := by have := of_decide_eq_true h5; omega
    have hil : i < l'.length := by omega
    obtain ⟨y, hy⟩ := getL (l := l') (j := i) hil
    have hk0 : 0 ≤ k + 2 * (i : Int) ∧ k + 2 * (i : Int) ≤ 1125899920000000 := by omega
    have hk1 : k + 2 * ((i + 1 : Nat) : Int) = k + 2 * (i : Int) + 2 := by omega
    have g3' : ∀ z, z = pairAt (k + 2 * (i : Int)) → ∀ j, j < i + 1 → (l'.set i z)[j]? = some (pairAt (k + 2 * (j : Int))) := by
      rintro z rfl j hj
      rw [List.getElem?_set]
      by_cases e : i = j
      · subst e; rw [if_pos rfl, if_pos (by omega)]
      · rw [if_neg e]; exact g3 j (by omega)
    generalize hq : k + 2 * (i : Int) = q at *
    obtain ⟨hq0, hq1⟩ := hk0
    let q1 : Int := IntKind.i64.wrap (q + 1)
    have w1 : q1 = q + 1 := w64 (by omega) (by omega)
    have w2 : IntKind.i64.wrap (q1 + 1) = q + 2 := by rw [w1, w64 (by omega) (by omega)]; omega
    conv => whnf
    refine ⟨⟨q, by omega, by omega⟩, rfl, ?_⟩
    rintro _ _ ⟨rfl, rfl⟩
    conv => whnf
    refine ⟨Int.natCast_nonneg _, (show (i : Int) < (l'.length : Int) by omega), ?_⟩
    conv => whnf
    refine ex2 y (nthI hy) ?_
    conv => whnf
    refine ⟨⟨mkT q, y.hi⟩, rfl, ?_⟩
    conv => whnf
    refine ⟨⟨q1, by omega, by omega⟩, rfl, ?_⟩
    rintro _ _ ⟨rfl, rfl⟩
    conv => whnf
    refine ⟨Int.natCast_nonneg _, Int.ofNat_lt.2 (by simp only [List.length_set]; exact hil), ?_⟩
    conv => whnf
    refine ex2 _ (nth_setI hil) ?_
    conv => whnf
    refine ⟨⟨mkT q, mkT q1⟩, rfl, ?_⟩
    conv => whnf
    refine ⟨l.length - (i + 1), [(0, 0)], [(0, .sl 0 none), (1, .lf (.int .i64 (k + 2 * ((i + 1 : Nat) : Int)))), (5, .lf (.int .i64 ((i + 1 : Nat) : Int))), (1000000, .sl 0 none)], [(0, some (.row .own 2 RngX.ds (l'.set i (pairAt q))))], by omega, ⟨rfl, ⟨rfl, ?_, ?_, rfl, trivial⟩, ?_, trivial⟩, i + 1, _, by omega, by simp; omega, g3' _ rfl, rfl, rfl, rfl⟩
    · show V.lf (.int .i64 (IntKind.i64.wrap (q1 + 1))) = _
      rw [w2, hk1]
    · show V.lf (.int .i64 (IntKind.i64.wrap ((i : Int) + 1))) = _
      rw [w64 (by omega) (by omega)]; rfl
    · show some (Ob.row .own 2 RngX.ds ((l'.set i _).set i (⟨mkT q, mkT q1⟩ : RngX))) = _
      rw [w1, List.set_set]; rfl
  · have hi : i = l.length := by have := of_decide_eq_false h5; omega
    subst hi
    have e1 := eq_markP g2 g3
    conv => whnf
    refine ⟨⟨?_, rfl⟩⟩
    show [[D.row 2 RngX.ds l']] = _
    rw [e1]
theorem markPairW_ok : FnOk Try.prog 20 (cMarkW 2 RngX.ds markP 2) := fnOk_of fun x => fnX_at tab_ok (SOk.cons markText_ok SOk.nil) mixed (fn := Try.f20) (code := body Try.f20) ⟨Try.func20, rfl, by kernel_rfl, by kernel_rfl, by kernel_rfl, by kernel_rfl⟩ (ev_markPairW x)
theorem ev_heldPairW : ∀ x, evFnX tab [(53, (pureC MkX [(.rd, false)] [false] (fun x => [[.lf (.int .i64 x.n)]]) (fun x => [[.lf (.string (mkT x.n))]])))] (cHeldW 2 RngX.ds markP 2) Try.f21 (body Try.f21) x := by
  rintro ⟨⟨n, k, h1, h2⟩, hn⟩
  replace hn : n ≤ 2097152 := hn
  conv => whnf
  refine ⟨fun m s h => ∃ (i : Nat), i ≤ n ∧ m = n - i ∧ s = [(0, .sl 0 none), (1, .lf (.int .i64 (k + 2 * (i : Int)))), (5, .lf (.int .i64 i))] ∧ h = [(0, some (.row .lent 2 RngX.ds (markP k n)))],
    n, [(0, 0)], [(0, .sl 0 none), (1, .lf (.int .i64 k)), (5, .lf (.int .i64 0))], [(0, some (.row .lent 2 RngX.ds (markP k n)))], ⟨rfl, ⟨rfl, rfl, rfl, trivial⟩, rfl, trivial⟩, ⟨0, by omega, by omega, by simp, rfl⟩, ?_⟩
  rintro m _ _ ⟨i, g1, rfl, rfl, rfl⟩
  have hL : (markP k n).length = n := markP_len k n
  conv => whnf
  intro _
  conv => whnf
  refine br2 (fun h5 => ?_) (fun h5 => ?_)
  · have hi : i < n := by have := of_decide_eq_true h5; omega
    have hy := nthI (markP_get (k := k) hi)
    have hlt : (i : Int) < ((markP k n).length : Int) := by omega
    have hk0 : 0 ≤ k + 2 * (i : Int) ∧ k + 2 * (i : Int) ≤ 1125899920000000 := by omega
    have hk1 : k + 2 * ((i + 1 : Nat) : Int) = k + 2 * (i : Int) + 2 := by omega
    generalize hq : k + 2 * (i : Int) = q at *
    obtain ⟨hq0, hq1⟩ := hk0
    let q1 : Int := IntKind.i64.wrap (q + 1)
    have w1 : q1 = q + 1 := w64 (by omega) (by omega)
    have w2 : IntKind.i64.wrap (q1 + 1) = q + 2 := by rw [w1, w64 (by omega) (by omega)]; omega
    conv => whnf
    refine ⟨Int.natCast_nonneg _, hlt, ?_⟩
    conv => whnf
    refine ex2 _ hy ?_
    conv => whnf
    repeat (refine rc_i (by (conv => whnf); first | rfl | exact ⟨Int.natCast_nonneg _, hlt, rfl⟩ | exact ex2 _ hy rfl) ?_; conv => whnf)
    refine ⟨⟨q, by omega, by omega⟩, rfl, ?_⟩
    rintro _ _ ⟨rfl, rfl⟩
    conv => whnf
    repeat (refine rc_i (by (conv => whnf); first | rfl | exact ⟨Int.natCast_nonneg _, hlt, rfl⟩ | exact ex2 _ hy rfl) ?_; conv => whnf)
    refine br2 (fun h => ?_) (fun _ => ?_)
    · exfalso
      replace h : (!strEq (mkT q) (mkT q)) = true := h
      rw [strEq_refl] at h; cases h
    conv => whnf
    refine ⟨Int.natCast_nonneg _, hlt, ?_⟩
    conv => whnf
    refine ex2 _ hy ?_
    conv => whnf
    repeat (refine rc_i (by (conv => whnf); first | rfl | exact ⟨Int.natCast_nonneg _, hlt, rfl⟩ | exact ex2 _ hy rfl) ?_; conv => whnf)
    refine ⟨⟨q1, by omega, by omega⟩, rfl, ?_⟩
    rintro _ _ ⟨rfl, rfl⟩
    conv => whnf
    repeat (refine rc_i (by (conv => whnf); first | rfl | exact ⟨Int.natCast_nonneg _, hlt, rfl⟩ | exact ex2 _ hy rfl) ?_; conv => whnf)
    refine br2 (fun h => ?_) (fun _ => ?_)
    · exfalso
      replace h : (!strEq (mkT (q + 1)) (mkT q1)) = true := h
      rw [w1, strEq_refl] at h; cases h
    conv => whnf
    refine ⟨n - (i + 1), [(0, 0)], [(0, .sl 0 none), (1, .lf (.int .i64 (k + 2 * ((i + 1 : Nat) : Int)))), (5, .lf (.int .i64 ((i + 1 : Nat) : Int)))], [(0, some (.row .lent 2 RngX.ds (markP k n)))], by omega, ⟨rfl, ⟨rfl, ?_, ?_, trivial⟩, rfl, trivial⟩, i + 1, by omega, rfl, rfl, rfl⟩
    · show V.lf (.int .i64 (IntKind.i64.wrap (q1 + 1))) = _
      rw [w2, hk1]
    · show V.lf (.int .i64 (IntKind.i64.wrap ((i : Int) + 1))) = _
      rw [w64 (by omega) (by omega)]; rfl
  · have hi : i = n := by have := of_decide_eq_false h5; omega
    subst hi
    conv => whnf
    exact ⟨⟨rfl, rfl⟩⟩
theorem heldPairW_ok : FnOk Try.prog 21 (cHeldW 2 RngX.ds markP 2) := fnOk_of fun x => fnX_at tab_ok (SOk.cons markText_ok SOk.nil) mixed (fn := Try.f21) (code := body Try.f21) ⟨Try.func21, rfl, by kernel_rfl, by kernel_rfl, by kernel_rfl, by kernel_rfl⟩ (ev_heldPairW x)
theorem DataR.same {N : List NodeX} {l : List EdX} {q q' : List RngX} (h : DataR N l q) (h' : DataR N l q') : q = q' := by
  by_cases hT : TreeP N
  · obtain ⟨o, a, b⟩ := hT
    rw [h.yes o a b, h'.yes o a b]
  · rw [h.no hT, h'.no hT]
theorem DataR.len {N : List NodeX} {l : List EdX} {q : List RngX} (h : DataR N l q) (hl : l.length ≤ 1048576) : q.length ≤ 2097152 := by
  by_cases hT : TreeP N
  · obtain ⟨o, a, b⟩ := hT
    rw [h.yes o a b]
    have h1 := (fold_srt (base_srt a.ok.srt (keys_pos a.ok)) l).2
    have h2 : ((allO o).filterMap dataP).length ≤ 200 := Nat.le_trans (List.length_filterMap_le _ _) a.ok.len
    show (l.foldl editL ((allO o).filterMap dataP)).length ≤ 2097152
    omega
  · rw [h.no hT]; simp
structure DataZ where
  N : List NodeX
  l : List EdX
  hN : nodesB0 N
  hl : l.length ≤ maxS ∧ ∀ y ∈ l, edB0 y
theorem ev_lawData : ∀ x, evFnX tab [(6, (cSz treeDs nodesB0 nodesB)), (13, (cSzS 3 EdX.ds edB0 edB)), (8, (pureC NodesY [(.rd, true)] [true] (fun x => [treeDs x.l]) (fun x => [treeDs x.l]))), (15, (cCopyS 3 EdX.ds)), (14, cData), (16, cData), (17, (cEqS 2 RngX.ds)), (10, (cEq treeDs)), (18, (cEqS 3 EdX.ds)), (11, (cMarkN true)), (19, (cMarkS 3 EdX.ds markE 3)), (20, (cMarkW 2 RngX.ds markP 2)), (21, (cHeldW 2 RngX.ds markP 2))] (pureC DataZ [(.rd, true), (.rd, false)] [false] (fun x => [treeDs x.N, [.row 3 EdX.ds x.l]]) (fun _ => [[.lf (.bool true)]])) Try.f4 (body Try.f4) x := by
  rintro ⟨N, l, hN, hl0⟩
  conv => whnf
  refine ⟨⟨N, 1048576, by omega, by omega, hN⟩, rfl, ?_⟩
  rintro _ _ ⟨rfl, q, rfl, k1, k2, k3⟩
  conv => whnf
  replace k2 : q ≤ 1048576 := k2
  refine br2 (fun h3 => ?_) (fun h3 => ?_)
  · conv => whnf
    exact ⟨⟨rfl, rfl⟩⟩
  have h3' := of_decide_eq_false h3
  obtain ⟨hl, hb⟩ := k3 (by omega)
  replace hl : N.length ≤ 1048576 := hl
  replace hb : ∀ n ∈ N, nodeB n := hb
  have hp : ∀ n ∈ N, n.ps.length ≤ 1048576 := fun n hn => (hb n hn).1
  conv => whnf
  refine ⟨⟨l, q, by omega, by omega, hl0⟩, rfl, ?_⟩
  rintro _ _ ⟨rfl, q2, rfl, j1, j2, j3⟩
  conv => whnf
  replace j2 : q2 ≤ q := j2
  refine br2 (fun h4 => ?_) (fun h4 => ?_)
  · conv => whnf
    exact ⟨⟨rfl, rfl⟩⟩
  have h4' := of_decide_eq_false h4
  obtain ⟨hll, -⟩ := j3 (by omega)
  replace hll : (l.length : Int) + q2 ≤ q := hll
  have hlen : l.length ≤ 1048576 := by omega
  conv => whnf
  refine ⟨⟨N, hl, hb⟩, rfl, ?_⟩
  rintro _ _ ⟨rfl, rfl⟩
  conv => whnf
  refine ⟨⟨l, hlen⟩, rfl, ?_⟩
  rintro _ _ ⟨rfl, rfl⟩
  conv => whnf
  refine ⟨⟨⟨N, N.length, Nat.le_refl _, hl, hp⟩, l, hlen⟩, rfl, ?_⟩
  rintro _ _ ⟨rfl, U, rfl, r1⟩
  conv => whnf
  refine ⟨⟨N, hl, hb⟩, rfl, ?_⟩
  rintro _ _ ⟨rfl, rfl⟩
  conv => whnf
  refine ⟨⟨l, hlen⟩, rfl, ?_⟩
  rintro _ _ ⟨rfl, rfl⟩
  conv => whnf
  refine ⟨⟨⟨N, N.length, Nat.le_refl _, hl, hp⟩, l, hlen⟩, rfl, ?_⟩
  rintro _ _ ⟨rfl, U', rfl, r2⟩
  conv => whnf
  obtain rfl := DataR.same r1 r2
  clear r2
  have hU : U.length ≤ 2097152 := r1.len hlen
  have hN0 : (!eqX N N) = false := by rw [eqX_refl]; rfl
  have hU0 : (!eqX U U) = false := by rw [eqX_refl]; rfl
  have hl1 : (!eqX l l) = false := by rw [eqX_refl]; rfl
  have hW := nodesW_le hb
  have hW0 := nodesW_pos N
  refine ⟨(U, U), rfl, ?_⟩
  rintro _ _ ⟨rfl, rfl⟩
  conv => whnf
  refine br2 (fun h4 => ?_) (fun h4 => ?_)
  · exact absurd (hU0.symm.trans h4) (by simp)
  conv => whnf
  refine ⟨⟨N, hl, hb⟩, rfl, ?_⟩
  rintro _ _ ⟨rfl, rfl⟩
  conv => whnf
  repeat ((first | refine rc_i rfl ?_ | refine rc_i (fun _ => rfl) ?_); conv => whnf)
  refine ⟨(N, N), rfl, ?_⟩
  rintro _ _ ⟨rfl, rfl⟩
  conv => whnf
  repeat ((first | refine rc_i rfl ?_ | refine rc_i (fun _ => rfl) ?_); conv => whnf)
  refine br2 (fun h6 => ?_) (fun h6 => ?_)
  · exact absurd (hN0.symm.trans h6) (by simp)
  conv => whnf
  refine ⟨⟨l, hlen⟩, rfl, ?_⟩
  rintro _ _ ⟨rfl, rfl⟩
  conv => whnf
  refine ⟨(l, l), rfl, ?_⟩
  rintro _ _ ⟨rfl, rfl⟩
  conv => whnf
  refine br2 (fun h6 => ?_) (fun h6 => ?_)
  · exact absurd (hl1.symm.trans h6) (by simp)
  conv => whnf
  refine ⟨⟨N, 1, by omega, by omega, hl, hb⟩, rfl, ?_⟩
  rintro _ _ ⟨rfl, rfl⟩
  conv => whnf
  refine ⟨⟨⟨l, 1 + nodesW N, by omega, by omega⟩, hlen⟩, rfl, ?_⟩
  rintro _ _ ⟨rfl, rfl⟩
  conv => whnf
  refine br2 (fun h7 => ?_) (fun h7 => ?_)
  · exfalso
    have : 1 + nodesW N + 3 * (l.length : Int) < 0 := of_decide_eq_true h7
    omega
  conv => whnf
  refine ⟨(U, U), rfl, ?_⟩
  rintro _ _ ⟨rfl, rfl⟩
  conv => whnf
  refine br2 (fun h4 => ?_) (fun h4 => ?_)
  · exact absurd (hU0.symm.trans h4) (by simp)
  conv => whnf
  refine ⟨⟨⟨U, 1, by omega, by omega⟩, hU⟩, rfl, ?_⟩
  rintro _ _ ⟨rfl, rfl⟩
  conv => whnf
  refine ⟨⟨⟨U.length, 1, by omega, by omega⟩, hU⟩, rfl, ?_⟩
  rintro _ _ ⟨rfl, rfl⟩
  conv => whnf
  refine br2 (fun h7 => ?_) (fun h7 => ?_)
  · exfalso
    replace h7 : ((1 + 2 * (U.length : Int)) != (1 + 2 * (U.length : Int))) = true := h7
    simp at h7
  conv => whnf
  refine ⟨⟨N, hl, hb⟩, rfl, ?_⟩
  rintro _ _ ⟨rfl, rfl⟩
  conv => whnf
  refine ⟨⟨l, hlen⟩, rfl, ?_⟩
  rintro _ _ ⟨rfl, rfl⟩
  conv => whnf
  refine ⟨⟨⟨N, N.length, Nat.le_refl _, hl, hp⟩, l, hlen⟩, rfl, ?_⟩
  rintro _ _ ⟨rfl, U', rfl, r2⟩
  conv => whnf
  obtain rfl := DataR.same r1 r2
  clear r2
  refine ⟨(U, U), rfl, ?_⟩
  rintro _ _ ⟨rfl, rfl⟩
  conv => whnf
  refine br2 (fun h4 => ?_) (fun h4 => ?_)
  · exact absurd (hU0.symm.trans h4) (by simp)
  conv => whnf
  refine ⟨⟨⟨U.length, 1, by omega, by omega⟩, hU⟩, rfl, ?_⟩
  rintro _ _ ⟨rfl, rfl⟩
  conv => whnf
  refine br2 (fun h7 => ?_) (fun h7 => ?_)
  · exfalso
    replace h7 : ((1 + 2 * (U.length : Int)) != (1 + 2 * (U.length : Int))) = true := h7
    simp at h7
  conv => whnf
  exact ⟨⟨rfl, rfl⟩⟩
theorem lawData_ok : FnOk Try.prog 4 (pureC DataZ [(.rd, true), (.rd, false)] [false] (fun x => [treeDs x.N, [.row 3 EdX.ds x.l]]) (fun _ => [[.lf (.bool true)]])) := fnOk_of fun x => fnX_at tab_ok (SOk.cons szTree_ok (SOk.cons szEditS_ok (SOk.cons toTree_ok (SOk.cons toEditS_ok (SOk.cons sData_ok (SOk.cons iData_ok (SOk.cons eqPairS_ok (SOk.cons eqTree_ok (SOk.cons eqEditS_ok (SOk.cons markTree_ok (SOk.cons markEditS_ok (SOk.cons markPairW_ok (SOk.cons heldPairW_ok SOk.nil))))))))))))) mixed (fn := Try.f4) (code := body Try.f4) ⟨Try.func4, rfl, by kernel_rfl, by kernel_rfl, by kernel_rfl, by kernel_rfl⟩ (ev_lawData x)
end Go.Vm
