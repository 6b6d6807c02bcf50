/- Contracts: the law FnScan. -/
import Derived.Test.YtlbeppaimfpchaaKb
namespace Go.Vm
open Go.Proofs
set_option maxRecDepth 100000
set_option linter.unusedVariables false
set_option linter.unusedSimpArgs false

theorem scan_take {f : ByteArray → Bool} {most : Int} : ∀ (l out : List RngX), l.foldl (scanS f most) out = out ++ (l.filter fun p => f p.lo).take (most.toNat - out.length)
  | [], out => by simp
  | p :: l, out => by
    rw [List.foldl_cons, scan_take l]
    cases hf : f p.lo with
    | false =>
      have : scanS f most out p = out := by unfold scanS; rw [hf]; rfl
      rw [this, List.filter_cons_of_neg (by simp [hf])]
    | true =>
      rw [List.filter_cons_of_pos (by simp [hf])]
      by_cases hl : (out.length : Int) < most
      · have : scanS f most out p = out ++ [p] := by unfold scanS; rw [hf, decide_eq_true hl]; rfl
        rw [this, List.length_append, show most.toNat - out.length = (most.toNat - (out.length + 1)) + 1 by omega, List.take_succ_cons]
        simp
      · have : scanS f most out p = out := by unfold scanS; rw [hf, decide_eq_false hl]; rfl
        rw [this, show most.toNat - out.length = 0 by omega]
        simp
theorem scan_law {N : List NodeX} {r : RngX} {a b o : List RngX} (h1 : ScanR N r 200 false a) (h2 : ScanR N r 200 true b) (h3 : ScanR N r 1 true o) :
    b = a.reverse ∧ (∀ p ∈ a, rangeHasB r p.lo = true) ∧ o = b.take 1 ∧ a.length ≤ 200 := by
  by_cases hT : TreeP N
  · obtain ⟨t, ht, e⟩ := hT
    have hl := ht.ok.len
    rw [h1.yes t ht e, h2.yes t ht e, h3.yes t ht e]
    unfold scanL
    simp only [scan_take, if_true, List.nil_append, List.length_nil, Nat.sub_zero]
    have hk : ((allO t).filter fun p => rangeHasB r p.lo).length ≤ 200 := Nat.le_trans (List.length_filter_le _ _) hl
    have e1 : (200 : Int).toNat = 200 := rfl
    have e2 : (1 : Int).toNat = 1 := rfl
    have e3 : (if false = true then (allO t).reverse else allO t) = allO t := rfl
    rw [e1, e2, e3, List.take_of_length_le hk, List.filter_reverse, List.take_of_length_le (by rw [List.length_reverse]; exact hk)]
    exact ⟨rfl, fun p hp => (List.mem_filter.1 hp).2, rfl, hk⟩
  · rw [h1.no hT, h2.no hT, h3.no hT]; simp
theorem scan_ex (N : List NodeX) (r : RngX) (m : Int) (b : Bool) : ∃ l, ScanR N r m b l := by
  by_cases hT : TreeP N
  · obtain ⟨t, ht, e⟩ := hT
    exact ⟨_, fun o ho e' => by rw [layO_inj (o := o) (o' := t) (by rw [← e', ← e])], fun h => absurd ⟨t, ht, e⟩ h⟩
  · exact ⟨[], fun o ho e => absurd ⟨o, ho, e⟩ hT, fun _ => rfl⟩
theorem scan_eq {N : List NodeX} {r : RngX} {m : Int} {b : Bool} {l l' : List RngX} (h : ScanR N r m b l) (h' : ScanR N r m b l') : l = l' := by
  by_cases hT : TreeP N
  · obtain ⟨o, ho, e⟩ := hT
    exact (h.yes o ho e).trans (h'.yes o ho e).symm
  · exact (h.no hT).trans (h'.no hT).symm
theorem eqCells_rng {x y : RngX} {K : Bool → Prop} (e : x = y) (h : K true) : K (strEq x.lo y.lo && (strEq x.hi y.hi && true)) := by
  subst e; rw [strEq_refl, strEq_refl]; exact h
theorem ev_iRangeHas : ∀ x, evFnX tab [(118, cRangeOk), (127, cKeyOk), (128, (cHas hasB))] (cHas rangeHasB) Try.f51 (body Try.f51) x := by
  rintro ⟨⟨lo, hi⟩, k⟩
  have fin : ∀ b, b = rangeHasB ⟨lo, hi⟩ k → [[D.lf (.bool b)]] = [[D.lf (.bool (rangeHasB ⟨lo, hi⟩ k))]] := fun b h => by rw [h]
  have eh : rangeHasB ⟨lo, hi⟩ k = (rangeOkB lo hi && keyOkB k && hasB ⟨lo, hi⟩ k) := rfl
  conv => whnf
  refine ⟨(lo, hi), rfl, ?_⟩
  rintro _ _ ⟨rfl, rfl⟩
  conv => whnf
  cases h1 : rangeOkB lo hi with
  | false =>
    conv => whnf
    exact ⟨⟨rfl, fin _ (by rw [eh, h1]; rfl)⟩⟩
  | true =>
  conv => whnf
  refine ⟨k, rfl, ?_⟩
  rintro _ _ ⟨rfl, rfl⟩
  conv => whnf
  cases h2 : keyOkB k with
  | false =>
    conv => whnf
    exact ⟨⟨rfl, fin _ (by rw [eh, h1, h2]; rfl)⟩⟩
  | true =>
  conv => whnf
  refine ⟨(⟨lo, hi⟩, k), rfl, ?_⟩
  rintro _ _ ⟨rfl, rfl⟩
  conv => whnf
  exact ⟨⟨rfl, fin _ (by rw [eh, h1, h2]; rfl)⟩⟩
theorem iRangeHas_ok : FnOk Try.prog 51 (cHas rangeHasB) := fnOk_of fun x => fnX_at tab_ok (SOk.cons iRangeOk_ok (SOk.cons iKeyOk_ok (SOk.cons iHas_ok SOk.nil))) mixed (fn := Try.f51) (code := body Try.f51) ⟨Try.func51, rfl, by kernel_rfl, by kernel_rfl, by kernel_rfl, by kernel_rfl⟩ (ev_iRangeHas x)
def cDTScan : Con := { X := CodeX, params := [(.keep, false)], res := [true, true, false, false], resOwn := false, ins := fun c => [[.row 1 encB c.b]], post := fun _ outs r => outs = [] ∧ ∃ N lo hi m b, r = [[.row 3 NodeX.ds N], [.lf (.string lo), .lf (.string hi)], [.lf (.int .i64 m)], [.lf (.bool b)]] ∧ SmallT N }
theorem ev_drawTreeScan : ∀ x, evFnX tab [(107, cNew), (123, cTAny), (124, (cDraw true rngE (rngP 20))), (125, cBelow), (126, (cDraw false intE intP))] cDTScan Try.f50 (body Try.f50) x := by
  rintro ⟨l, hb⟩
  conv => whnf
  refine ⟨⟨l, hb⟩, rfl, ?_⟩
  rintro _ _ ⟨rfl, c, rfl⟩
  conv => whnf
  refine ⟨c, rfl, ?_⟩
  rintro _ _ ⟨c, N, rfl, rfl, hS⟩
  conv => whnf
  refine useDraw (c := c) rfl fun c r _ => ?_
  obtain ⟨lo, hi⟩ := r
  conv => whnf
  refine useBelow (c := c) (n := 9) rfl (by decide) fun c v v1 v2 _ => ?_
  conv => whnf
  refine useBelow (c := c) (n := 6) rfl (by decide) fun c v' v1' v2' _ => ?_
  conv => whnf
  refine br2 (fun h1 => ?_) (fun h1 => ?_)
  · conv => whnf
    refine useDraw (c := c) rfl fun c m _ => ?_
    conv => whnf
    refine useBelow (c := c) (n := 2) rfl (by decide) fun c q _ _ _ => ?_
    conv => whnf
    repeat ((first | refine rc_i rfl ?_ | refine rc_i (fun _ => rfl) ?_); conv => whnf)
    exact ⟨⟨rfl, N, lo, hi, _, _, rfl, hS⟩⟩
  · conv => whnf
    refine useBelow (c := c) (n := 2) rfl (by decide) fun c q _ _ _ => ?_
    conv => whnf
    repeat ((first | refine rc_i rfl ?_ | refine rc_i (fun _ => rfl) ?_); conv => whnf)
    exact ⟨⟨rfl, N, lo, hi, _, _, rfl, hS⟩⟩
theorem drawTreeScan_ok : FnOk Try.prog 50 cDTScan := fnOk_of fun x => fnX_at tab_ok (SOk.cons l01New_ok (SOk.cons l03Any_ok (SOk.cons l02AnyRange_ok (SOk.cons l01Below_ok (SOk.cons l01Raw_ok SOk.nil))))) mixed (fn := Try.f50) (code := body Try.f50) ⟨Try.func50, rfl, by kernel_rfl, by kernel_rfl, by kernel_rfl, by kernel_rfl⟩ (ev_drawTreeScan x)
structure LawX where
  b : List UInt8
def cLawB : Con := { X := LawX, params := [(.keep, false)], res := [false], resOwn := true, ins := fun c => [[.row 1 encB c.b]], post := fun _ outs r => outs = [] ∧ r = [[.lf (.bool true)]] }
theorem SmallT.x {N : List NodeX} (h : SmallT N) : N.length ≤ 1048576 ∧ ∀ n ∈ N, n.ps.length ≤ 1048576 := ⟨by have := h.len; omega, fun n hn => by have := (h.nodes n hn).1; omega⟩
theorem ev_lawScan : ∀ x, evFnX tab [(50, cDTScan), (44, cTreeScan), (41, cTreeScan), (51, (cHas rangeHasB))] cLawB Try.f8 (body Try.f8) x := by
  rintro ⟨c⟩
  conv => whnf
  intro _
  conv => whnf
  refine br2 (fun h0 => ?_) (fun h0 => ?_)
  · conv => whnf
    exact ⟨⟨rfl, rfl⟩⟩
  have hb : c.length ≤ 1048576 := by have h1 : ¬ (c.length : Int) > 1048576 := of_decide_eq_false h0; omega
  clear h0
  conv => whnf
  refine ⟨⟨c, hb⟩, rfl, ?_⟩
  rintro _ _ ⟨rfl, N, lo, hi, m, x, rfl, hS⟩
  obtain ⟨hN, hp⟩ := hS.x
  conv => whnf
  refine ⟨⟨⟨N, N.length, Nat.le_refl _, hN, hp⟩, ⟨lo, hi⟩, 200, false⟩, rfl, ?_⟩
  rintro _ _ ⟨rfl, a, rfl, s1⟩
  conv => whnf
  refine ⟨⟨⟨N, N.length, Nat.le_refl _, hN, hp⟩, ⟨lo, hi⟩, 200, true⟩, rfl, ?_⟩
  rintro _ _ ⟨rfl, b, rfl, s2⟩
  conv => whnf
  intro _
  conv => whnf
  refine ⟨⟨⟨N, N.length, Nat.le_refl _, hN, hp⟩, ⟨lo, hi⟩, 200, false⟩, rfl, ?_⟩
  rintro _ _ ⟨rfl, a', rfl, s3⟩
  conv => whnf
  intro _
  conv => whnf
  obtain rfl := scan_eq s1 s3
  clear s3
  obtain ⟨o0, ho0⟩ := scan_ex N ⟨lo, hi⟩ 1 true
  obtain ⟨rfl, hf, -, hla⟩ := scan_law s1 s2 ho0
  refine br2 (fun h1 => ?_) (fun h1 => ?_)
  · exfalso
    replace h1 : ((a.length : Int) != (a.length : Int)) = true := h1
    simp at h1
  conv => whnf
  intro _
  conv => whnf
  intro _
  conv => whnf
  refine br2 (fun h2 => ?_) (fun h2 => ?_)
  · exfalso
    replace h2 : ((a.length : Int) != (a.reverse.length : Int)) = true := h2
    simp at h2
  clear h1 h2
  conv => whnf
  intro _
  conv => whnf
  let S0 : Nat → Sl := fun i => [(43, .lf (.int .i64 i)), (42, .lf (.int .i64 a.length)), (7, .sl 368 none), (8, .sl 416 none), (3, .pt 48 0 0), (4, .pt 64 0 0)]
  let H0 : Hp := [(368, some (.row .own 2 RngX.ds a)), (416, some (.row .own 2 RngX.ds a.reverse)), (48, some (.arr true 1 [[.sl 256 none]])), (64, some (.arr true 2 [[.lf (.string lo), .lf (.string hi)]])), (256, some (.row .ro 3 NodeX.ds N))]
  refine ⟨fun m s h => ∃ i : Nat, i ≤ a.length ∧ m = a.length - i ∧ s = S0 i ∧ h = H0, a.length, [(368, 368), (416, 416), (48, 48), (64, 64), (256, 256)], S0 0, H0, ⟨rfl, ⟨rfl, rfl, rfl, rfl, rfl, rfl, trivial⟩, rfl, rfl, rfl, rfl, rfl, trivial⟩, ⟨0, by omega, by omega, rfl, rfl⟩, ?_⟩
  rintro m _ _ ⟨i, g1, rfl, rfl, rfl⟩
  conv => whnf
  refine br2 (fun h5 => ?_) (fun h5 => ?_)
  · have hia : i < a.length := by have := of_decide_eq_true h5; omega
    obtain ⟨y, hy⟩ := getL hia
    have hy2 : a.reverse[a.length - 1 - i]? = some y := by
      rw [rev_at (by omega), show a.length - 1 - (a.length - 1 - i) = i by omega]; exact hy
    have hw : IntKind.i64.wrap (IntKind.i64.wrap ((a.reverse.length : Int) - 1) - (i : Int)) = ((a.length - 1 - i : Nat) : Int) := by
      rw [List.length_reverse, w64 (n := (a.length : Int) - 1) (by omega) (by omega), w64 (by omega) (by omega)]; omega
    have hfy : rangeHasB ⟨lo, hi⟩ y.lo = true := hf y (List.mem_of_getElem? hy)
    conv => whnf
    refine ⟨Int.natCast_nonneg _, ltI hy, ?_⟩
    conv => whnf
    refine ex2 _ (nthI hy) ?_
    conv => whnf
    intro _
    conv => whnf
    refine ⟨(ixE hw hy2).1, (ixE hw hy2).2, ?_⟩
    conv => whnf
    refine ex2 _ (nthE hw hy2) ?_
    conv => whnf
    have hr : ∀ x : ByteArray, (strEq x x) = true := strEq_refl
    have hne : (!(strEq y.lo y.lo && (strEq y.hi y.hi && true))) = false := by rw [hr, hr]; rfl
    refine br2 (fun h6 => ?_) (fun h6 => ?_)
    · exact absurd (hne.symm.trans h6) (by simp)
    conv => whnf
    refine ⟨Int.natCast_nonneg _, ltI hy, ?_⟩
    conv => whnf
    refine ex2 _ (nthI hy) ?_
    conv => whnf
    refine ⟨(⟨lo, hi⟩, y.lo), rfl, ?_⟩
    rintro _ _ ⟨rfl, rfl⟩
    conv => whnf
    repeat ((first | refine rc_i rfl ?_ | refine rc_i (fun _ => rfl) ?_); conv => whnf)
    refine br2 (fun h7 => ?_) (fun h7 => ?_)
    · replace h7 : (!rangeHasB ⟨lo, hi⟩ y.lo) = true := h7
      rw [hfy] at h7; cases h7
    conv => whnf
    exact ⟨a.length - (i + 1), [(368, 368), (416, 416), (48, 48), (64, 64), (256, 256)], S0 (i + 1), H0, by omega, ⟨rfl, ⟨incI hia (by omega), rfl, rfl, rfl, rfl, rfl, trivial⟩, rfl, rfl, rfl, rfl, rfl, trivial⟩, i + 1, by omega, rfl, rfl, rfl⟩
  · have hia : i = a.length := by have := of_decide_eq_false h5; omega
    subst hia
    conv => whnf
    refine ⟨⟨⟨N, N.length, Nat.le_refl _, hN, hp⟩, ⟨lo, hi⟩, 1, true⟩, rfl, ?_⟩
    rintro _ _ ⟨rfl, o, rfl, s3⟩
    conv => whnf
    obtain ⟨_, _, ho, _⟩ := scan_law s1 s2 s3
    cases ha : a.reverse with
    | nil =>
      have ha0 : a = [] := by simpa using ha
      rw [ha] at ho
      subst ha0
      obtain rfl : o = [] := ho
      intro _
      conv => whnf
      intro _
      conv => whnf
      repeat ((first | refine rc_i rfl ?_ | refine rc_i (fun _ => rfl) ?_); conv => whnf)
      exact ⟨⟨rfl, rfl⟩⟩
    | cons z zs =>
      rw [ha] at ho
      obtain rfl : o = [z] := ho
      obtain ⟨u, us, rfl⟩ : ∃ u us, a = u :: us := by cases a with | nil => simp at ha | cons u us => exact ⟨u, us, rfl⟩
      have hz : (u :: us).reverse[0]? = some z := by rw [ha]; rfl
      have hzl : 0 < (u :: us).reverse.length := by rw [ha]; simp
      intro _
      conv => whnf
      intro _
      conv => whnf
      refine ⟨Int.le_refl _, (show (0 : Int) < 1 by decide), ?_⟩
      conv => whnf
      refine ⟨Int.le_refl _, (show (0 : Int) < ((u :: us).reverse.length : Int) by omega), ?_⟩
      conv => whnf
      refine ex2 z (by rw [nth_eq]; exact hz) ?_
      conv => whnf
      have e1 : strEq z.lo z.lo = true := strEq_refl _
      have e2 : strEq z.hi z.hi = true := strEq_refl _
      repeat (refine rc_i (by (conv => whnf); first | rfl | exact fun _ => rfl | exact ⟨Int.le_refl _, (show (0 : Int) < 1 by decide), rfl⟩ | exact ⟨Int.le_refl _, (show (0 : Int) < ((u :: us).reverse.length : Int) by omega), rfl⟩ | exact ex2 _ (by rw [nth_eq]; exact hz) rfl) ?_; conv => whnf)
      refine ⟨⟨rfl, ?_⟩⟩
      show [[D.lf (.bool (strEq z.lo z.lo && (strEq z.hi z.hi && true)))]] = [[D.lf (.bool true)]]
      rw [e1, e2]; rfl
theorem lawScan_ok : FnOk Try.prog 8 cLawB := fnOk_of fun x => fnX_at tab_ok (SOk.cons drawTreeScan_ok (SOk.cons iTreeScan_ok (SOk.cons sTreeScan_ok (SOk.cons iRangeHas_ok SOk.nil)))) mixed (fn := Try.f8) (code := body Try.f8) ⟨Try.func8, rfl, by kernel_rfl, by kernel_rfl, by kernel_rfl, by kernel_rfl⟩ (ev_lawScan x)
end Go.Vm
namespace Go.Vm
open Go.Proofs
set_option maxRecDepth 100000
set_option linter.unusedVariables false
set_option linter.unusedSimpArgs false

theorem rng_eq {x y : RngX} : (strEq x.lo y.lo && (strEq x.hi y.hi && true)) = true ↔ x = y := by
  cases x; cases y
  simp only [Bool.and_true, Bool.and_eq_true, RngX.mk.injEq]
  exact ⟨fun h => ⟨strEq_iff.1 h.1, strEq_iff.1 h.2⟩, fun h => ⟨strEq_iff.2 h.1, strEq_iff.2 h.2⟩⟩
theorem ev_samePairs : ∀ x, evFnX tab [] (cEqS 2 RngX.ds) Try.f62 (body Try.f62) x := by
  rintro ⟨a, b⟩
  conv => whnf
  intro ha
  replace ha : a.length ≤ 9223372036854775807 := ha
  conv => whnf
  intro _
  conv => whnf
  refine br2 (fun h1 => ?_) (fun h1 => ?_)
  · have h1' : a.length ≠ b.length := by
      replace h1 : ((a.length : Int) != (b.length : Int)) = true := h1
      simp at h1; omega
    conv => whnf
    refine ⟨⟨rfl, ?_⟩⟩
    show [[D.lf (.bool false)]] = [[D.lf (.bool (eqX a b))]]
    rw [eqX_no.2 (fun e => h1' (by rw [e]))]
  have h1' : a.length = b.length := by
    replace h1 : ((a.length : Int) != (b.length : Int)) = false := h1
    simp at h1; omega
  conv => whnf
  intro _
  conv => whnf
  let S0 : Nat → Sl := fun i => [(13, .lf (.int .i64 i)), (12, .lf (.int .i64 a.length)), (0, .sl 0 none), (1, .sl 16 none)]
  let H0 : Hp := [(0, some (.row .lent 2 RngX.ds a)), (16, some (.row .lent 2 RngX.ds b))]
  refine ⟨fun m s h => ∃ i : Nat, i ≤ a.length ∧ (∀ j, j < i → a[j]? = b[j]?) ∧ m = a.length - i ∧ s = S0 i ∧ h = H0, a.length, [(0, 0), (16, 16)], S0 0, H0, ⟨rfl, ⟨rfl, rfl, rfl, rfl, trivial⟩, rfl, rfl, trivial⟩, ⟨0, by omega, fun j h => by omega, by omega, rfl, rfl⟩, ?_⟩
  rintro m _ _ ⟨i, g1, g2, rfl, rfl, rfl⟩
  conv => whnf
  refine br2 (fun h5 => ?_) (fun h5 => ?_)
  · have hi : i < a.length := by have := of_decide_eq_true h5; omega
    obtain ⟨x, hx⟩ := getL hi
    obtain ⟨y, hy⟩ := getL (l := b) (j := i) (by omega)
    conv => whnf
    refine ⟨Int.natCast_nonneg _, ltI hx, ?_⟩
    conv => whnf
    refine ex2 _ (nthI hx) ?_
    conv => whnf
    refine ⟨Int.natCast_nonneg _, ltI hy, ?_⟩
    conv => whnf
    refine ex2 _ (nthI hy) ?_
    conv => whnf
    repeat (refine rc_i (by (conv => whnf); first | rfl | exact fun _ => rfl | exact ⟨Int.natCast_nonneg _, ltI hx, rfl⟩ | exact ⟨Int.natCast_nonneg _, ltI hy, rfl⟩ | exact ex2 _ (nthI hx) rfl | exact ex2 _ (nthI hy) rfl) ?_; conv => whnf)
    refine br2 (fun h6 => ?_) (fun h6 => ?_)
    · have h6' : x ≠ y := fun e => by
        replace h6 : (!(strEq x.lo y.lo && (strEq x.hi y.hi && true))) = true := h6
        rw [rng_eq.2 e] at h6; cases h6
      conv => whnf
      refine ⟨⟨rfl, ?_⟩⟩
      show [[D.lf (.bool false)]] = [[D.lf (.bool (eqX a b))]]
      rw [eqX_no.2 (fun e => h6' (by rw [e, hy] at hx; cases hx; rfl))]
    · have h6' : x = y := rng_eq.1 (by
        replace h6 : (!(strEq x.lo y.lo && (strEq x.hi y.hi && true))) = false := h6
        simpa using h6)
      conv => whnf
      refine ⟨a.length - (i + 1), [(0, 0), (16, 16)], S0 (i + 1), H0, by omega, ⟨rfl, ⟨incI hi (by omega), rfl, rfl, rfl, trivial⟩, rfl, rfl, trivial⟩, i + 1, hi, fun j hj => ?_, rfl, rfl, rfl⟩
      by_cases e : j = i
      · subst e; rw [hx, hy, h6']
      · exact g2 j (by omega)
  · have hi : i = a.length := by have := of_decide_eq_false h5; omega
    subst hi
    conv => whnf
    refine ⟨⟨rfl, ?_⟩⟩
    show [[D.lf (.bool true)]] = [[D.lf (.bool (eqX a b))]]
    rw [eqX_iff.2]
    refine List.ext_getElem? fun j => ?_
    rcases Nat.lt_or_ge j a.length with h | h
    · exact g2 j h
    · rw [List.getElem?_eq_none h, List.getElem?_eq_none (by omega)]
theorem samePairs_ok : FnOk Try.prog 62 (cEqS 2 RngX.ds) := fnOk_of fun x => fnX_at tab_ok (SOk.nil) mixed (fn := Try.f62) (code := body Try.f62) ⟨Try.func62, rfl, by kernel_rfl, by kernel_rfl, by kernel_rfl, by kernel_rfl⟩ (ev_samePairs x)
def cDTOf : Con := { X := CodeX, params := [(.keep, false)], res := [false], resOwn := true, ins := fun c => [[.row 1 encB c.b]], post := fun _ outs r => outs = [] ∧ ∃ l, r = [[.row 2 RngX.ds l]] ∧ l.length ≤ 200 }
theorem ev_drawTreeOf : ∀ x, evFnX tab [(107, cNew), (139, cTDraw), (54, cTreeAll), (125, cBelow)] cDTOf Try.f58 (body Try.f58) x := by
  rintro ⟨l, hb⟩
  conv => whnf
  refine ⟨⟨l, hb⟩, rfl, ?_⟩
  rintro _ _ ⟨rfl, c, rfl⟩
  conv => whnf
  refine ⟨⟨c, 20, by decide, by decide⟩, rfl, ?_⟩
  rintro _ _ ⟨c, N, rfl, rfl, hT⟩
  have hsm := hT.small
  conv => whnf
  refine ⟨⟨N, N.length, Nat.le_refl _, by omega, fun n hn => by have := (hsm.2 n hn).1; omega⟩, rfl, ?_⟩
  rintro _ _ ⟨rfl, a, rfl, ha⟩
  replace ha : AllR N a := ha
  have hl := ha.okk.len
  conv => whnf
  intro _
  conv => whnf
  refine br2 (fun h1 => ?_) (fun h1 => ?_)
  · have h1' : 1 < a.length := by
      replace h1 : decide ((a.length : Int) > 1) = true := h1
      have := of_decide_eq_true h1; omega
    conv => whnf
    refine useBelow (c := c) (n := 4) rfl (by decide) fun c v v1 v2 _ => ?_
    conv => whnf
    refine br2 (fun h2 => ?_) (fun h2 => ?_)
    · have hw : IntKind.i64.wrap ((a.length : Int) - 1) = ((a.length - 1 : Nat) : Int) := by rw [w64 (by omega) (by omega)]; omega
      obtain ⟨y, hy⟩ := getL (l := a) (j := a.length - 1) (by omega)
      obtain ⟨z, hz⟩ := getL (l := a) (j := 0) (by omega)
      conv => whnf
      intro _
      conv => whnf
      refine ⟨(ixE hw hy).1, (ixE hw hy).2, ?_⟩
      conv => whnf
      refine ex2 _ (nthE hw hy) ?_
      conv => whnf
      refine ⟨Int.natCast_nonneg _, ltI hz, ?_⟩
      conv => whnf
      refine ex2 _ (nthI hz) ?_
      conv => whnf
      refine ⟨y, rfl, ?_⟩
      conv => whnf
      exact ⟨⟨rfl, a.set 0 y, rfl, by rw [List.length_set]; exact hl⟩⟩
    · conv => whnf
      exact ⟨⟨rfl, a, rfl, hl⟩⟩
  · conv => whnf
    exact ⟨⟨rfl, a, rfl, hl⟩⟩
theorem drawTreeOf_ok : FnOk Try.prog 58 cDTOf := fnOk_of fun x => fnX_at tab_ok (SOk.cons l01New_ok (SOk.cons l03Draw_ok (SOk.cons sTreeAll_ok (SOk.cons l01Below_ok SOk.nil)))) mixed (fn := Try.f58) (code := body Try.f58) ⟨Try.func58, rfl, by kernel_rfl, by kernel_rfl, by kernel_rfl, by kernel_rfl⟩ (ev_drawTreeOf x)
theorem of_many {l : List RngX} (h : PairsOkP l) : (deepO (ofO l) = 0 ↔ l = []) ∧ (2 ≤ deepO (ofO l) → 2 ^ (deepO (ofO l) - 1) ≤ l.length) := by
  obtain ⟨a, b⟩ := ofO_all h
  cases e : ofO l with
  | none =>
    rw [e] at b
    have : l = [] := b.symm
    subst this
    simp [deepO]
  | some x =>
    rw [e] at a b
    obtain ⟨d, hd⟩ := a.shp
    have b' : x.all = l := b
    obtain ⟨m1, m2, -, -⟩ := hd.manyR
    rw [b'] at m1 m2
    have hp := hd.pos
    simp only [deepO]
    rw [hd.deep]
    refine ⟨⟨fun h => by omega, fun h => by subst h; simp at m1⟩, fun h => ?_⟩
    exact Nat.le_trans (Nat.pow_le_pow_right (by omega) (by omega)) (m2 h)
theorem ev_lawOf : ∀ x, evFnX tab [(58, cDTOf), (59, cTreeOf), (60, cPairsOk), (61, cDepth), (53, cTreeAll), (62, (cEqS 2 RngX.ds))] cLawB Try.f10 (body Try.f10) x := by
  rintro ⟨c⟩
  conv => whnf
  intro _
  conv => whnf
  refine br2 (fun h0 => ?_) (fun h0 => ?_)
  · conv => whnf
    exact ⟨⟨rfl, rfl⟩⟩
  have hb : c.length ≤ 1048576 := by have h1 : ¬ (c.length : Int) > 1048576 := of_decide_eq_false h0; omega
  clear h0
  conv => whnf
  refine ⟨⟨c, hb⟩, rfl, ?_⟩
  rintro _ _ ⟨rfl, l, rfl, hl⟩
  conv => whnf
  refine ⟨l, rfl, ?_⟩
  rintro _ _ ⟨rfl, N, ok, rfl, r1⟩
  conv => whnf
  refine ⟨l, rfl, ?_⟩
  rintro _ _ ⟨rfl, b, rfl, e⟩
  conv => whnf
  replace e : b = true ↔ PairsOkP l := e
  have hb0 : b = ok := by
    by_cases hp : PairsOkP l
    · rw [e.2 hp, (r1.yes hp).1]
    · rw [(r1.no hp).1]; cases b with
      | false => rfl
      | true => exact absurd (e.1 rfl) hp
  subst hb0
  have hk0 : (b != b) = false := by cases b <;> rfl
  refine br2 (fun h5 => ?_) (fun h5 => ?_)
  · exact absurd (hk0.symm.trans h5) (by simp)
  clear h5
  cases b with
  | false =>
    obtain rfl := (r1.no fun h => by have := e.2 h; cases this).2
    conv => whnf
    intro _
    conv => whnf
    exact ⟨⟨rfl, rfl⟩⟩
  | true =>
  have hp := e.1 rfl
  obtain rfl := (r1.yes hp).2
  obtain ⟨vo, al⟩ := ofO_all hp
  obtain ⟨m1, m2⟩ := of_many hp
  have hd7 := vo.deep_le
  have sm := TreeP.small ⟨_, vo, rfl⟩
  have hx : (layO (ofO l)).length ≤ 1048576 ∧ ∀ n ∈ layO (ofO l), n.ps.length ≤ 1048576 := ⟨by omega, fun n hn => by have := (sm.2 n hn).1; omega⟩
  generalize hd : deepO (ofO l) = d at *
  conv => whnf
  refine ⟨⟨layO (ofO l), _, Nat.le_refl _, hx.1, hx.2⟩, rfl, ?_⟩
  rintro _ _ ⟨rfl, n, rfl, dr⟩
  conv => whnf
  obtain rfl : n = (d : Int) := by rw [dr.yes _ vo rfl, hd]
  let S0 : Nat → Nat → Sl := fun i k => [(8, .lf (.int .i64 i)), (7, .lf (.int .i64 k)), (6, .lf (.int .i64 d)), (3, .sl 208 none), (4, .pt 64 0 0)]
  let H0 : Hp := [(64, some (.arr true 1 [[.sl 256 none]])), (256, some (.row .own 3 NodeX.ds (layO (ofO l)))), (208, some (.row .own 2 RngX.ds l))]
  refine ⟨fun m s h => ∃ j : Nat, (j = 0 ∨ j + 1 ≤ d) ∧ m = d - j ∧ s = S0 (j + 1) (2 ^ j) ∧ h = H0, d, [(64, 64), (256, 256), (208, 208)], S0 1 1, H0, ⟨rfl, ⟨rfl, rfl, rfl, rfl, rfl, trivial⟩, rfl, rfl, rfl, trivial⟩, ⟨0, .inl rfl, by omega, rfl, rfl⟩, ?_⟩
  rintro m _ _ ⟨j, g1, rfl, rfl, rfl⟩
  have hj : j ≤ 7 := by omega
  have hw2 : ∀ q : Nat, q ≤ 128 → IntKind.i64.wrap ((q : Int) * 2) = ((q * 2 : Nat) : Int) := fun q h => by rw [w64 (by omega) (by omega)]; omega
  have hj2 : 2 ^ j ≤ 2 ^ 7 := Nat.pow_le_pow_right (by omega) hj
  conv => whnf
  refine br2 (fun h5 => ?_) (fun h5 => ?_)
  · have hi : j + 1 < d := by
      replace h5 : decide (((j + 1 : Nat) : Int) < (d : Int)) = true := h5
      have := of_decide_eq_true h5; omega
    conv => whnf
    refine ⟨d - (j + 1), [(64, 64), (256, 256), (208, 208)], S0 (j + 1 + 1) (2 ^ (j + 1)), H0, by omega, ⟨rfl, ⟨incI (Nat.lt_succ_self (j + 1)) (by omega), ?_, rfl, rfl, rfl, trivial⟩, rfl, rfl, rfl, trivial⟩, j + 1, .inr (by omega), rfl, rfl, rfl⟩
    show V.lf (.int .i64 (IntKind.i64.wrap (((2 ^ j : Nat) : Int) * 2))) = V.lf (.int .i64 ((2 ^ (j + 1) : Nat) : Int))
    rw [hw2 _ (Nat.le_trans hj2 (by decide)), Nat.pow_succ]
  · have hi : ¬ j + 1 < d := by
      replace h5 : decide (((j + 1 : Nat) : Int) < (d : Int)) = false := h5
      have := of_decide_eq_false h5; omega
    have hj3 : 2 ≤ d → j = d - 1 := by omega
    clear h5
    conv => whnf
    refine ⟨⟨layO (ofO l), _, Nat.le_refl _, hx.1, hx.2⟩, rfl, ?_⟩
    rintro _ _ ⟨rfl, a, rfl, ar⟩
    conv => whnf
    obtain rfl : a = l := by rw [ar.yes _ vo rfl, al]
    refine ⟨(a, a), rfl, ?_⟩
    rintro _ _ ⟨rfl, rfl⟩
    conv => whnf
    refine br2 (fun h6 => ?_) (fun h6 => ?_)
    · conv => whnf
      intro _
      conv => whnf
      have hq : ((((d : Int) == 0) == ((a.length : Int) == 0)) : Bool) = true := by
        by_cases h0 : a = []
        · rw [m1.2 h0, h0]; rfl
        · have h1 : d ≠ 0 := fun e => h0 (m1.1 e)
          have h2 : a.length ≠ 0 := fun e => h0 (List.eq_nil_of_length_eq_zero e)
          have e1 : ((d : Int) == 0) = false := by simp; omega
          have e2 : ((a.length : Int) == 0) = false := by simp; omega
          rw [e1, e2]; rfl
      refine br2 (fun h7 => ?_) (fun h7 => ?_)
      · conv => whnf
        refine br2 (fun h8 => ?_) (fun h8 => ?_)
        · conv => whnf
          exact ⟨⟨rfl, rfl⟩⟩
        · have h8' : 2 ≤ d := by
            replace h8 : decide ((d : Int) < 2) = false := h8
            have := of_decide_eq_false h8; omega
          have := m2 h8'
          have e1 := hj3 h8'
          conv => whnf
          intro _
          conv => whnf
          refine ⟨⟨rfl, ?_⟩⟩
          show [[D.lf (.bool (decide ((a.length : Int) ≥ ((2 ^ j : Nat) : Int))))]] = [[D.lf (.bool true)]]
          rw [decide_eq_true]
          rw [e1]; omega
      · exact absurd (hq.symm.trans h7) (by simp)
    · exfalso
      replace h6 : eqX a a = false := h6
      rw [eqX_refl] at h6; cases h6
theorem lawOf_ok : FnOk Try.prog 10 cLawB := fnOk_of fun x => fnX_at tab_ok (SOk.cons drawTreeOf_ok (SOk.cons iTreeOf_ok (SOk.cons sPairsOk_ok (SOk.cons iDepth_ok (SOk.cons iTreeAll_ok (SOk.cons samePairs_ok SOk.nil)))))) mixed (fn := Try.f10) (code := body Try.f10) ⟨Try.func10, rfl, by kernel_rfl, by kernel_rfl, by kernel_rfl, by kernel_rfl⟩ (ev_lawOf x)
end Go.Vm
namespace Go.Vm
open Go.Proofs
set_option maxRecDepth 100000
set_option linter.unusedVariables false
set_option linter.unusedSimpArgs false

theorem ev_l02AnyVal : ∀ x, evFnX tab [(125, cBelow), (190, (cDraw false strE (strP 60)))] (cDraw false strE (strP 61)) Try.f151 (body Try.f151) x := by
  intro c
  conv => whnf
  refine useBelow (c := c) (n := 14) rfl (by decide) fun c k k1 k2 _ => ?_
  conv => whnf
  refine br2 (fun h1 => ?_) (fun h1 => ?_)
  · conv => whnf
    refine ⟨by decide, rfl, by decide, ?_⟩
    conv => whnf
    refine ⟨UInt8, encB, 0, fun _ => rfl, rfl, ?_⟩
    conv => whnf
    refine ⟨List.replicate (61 : Int).toNat 0, rfl, ?_⟩
    conv => whnf
    refine ⟨⟨c, _, rfl, rfl, ?_⟩⟩
    show (List.replicate (61 : Int).toNat (0 : UInt8)).toArray.size ≤ 61
    simp
  · conv => whnf
    refine useDraw (c := c) rfl fun c v hv => ?_
    conv => whnf
    exact ⟨⟨c, v, rfl, rfl, Nat.le_trans hv (by omega)⟩⟩
theorem l02AnyVal_ok : FnOk Try.prog 151 (cDraw false strE (strP 61)) := fnOk_of fun x => fnX_at tab_ok (SOk.cons l01Below_ok (SOk.cons l02Val_ok SOk.nil)) mixed (fn := Try.f151) (code := body Try.f151) ⟨Try.func151, rfl, by kernel_rfl, by kernel_rfl, by kernel_rfl, by kernel_rfl⟩ (ev_l02AnyVal x)
structure BigX where
  n : Int
  h1 : 0 ≤ n
  h2 : n ≤ 1000
def cBig : Con := relC BigX [(.rd, false)] [true] (fun x => [[.lf (.int .i64 x.n)]]) (fun x r => ∃ N, r = [[.row 3 NodeX.ds N]] ∧ TreeP N)
theorem ev_l03Big : ∀ x, evFnX tab [(1000002, cGh), (78, cNumText), (67, cTreeOf)] cBig Try.f150 (body Try.f150) x := by
  rintro ⟨n, h1, h2⟩
  replace h1 : 0 ≤ n := h1
  replace h2 : n ≤ 1000 := h2
  obtain ⟨n, rfl⟩ : ∃ m : Nat, n = m := ⟨n.toNat, by omega⟩
  conv => whnf
  refine ⟨[.row 112], ?_⟩
  conv => whnf
  refine ⟨RngX, RngX.ds, [], fun _ => rfl, rfl, ?_⟩
  conv => whnf
  let S0 : Nat → Sl := fun i => [(4, .lf (.int .i64 i)), (3, .sl 112 none), (0, .lf (.int .i64 n)), (2, .pt 32 0 0)]
  let H0 : List RngX → Hp := fun l => [(112, some (.row .own 2 RngX.ds l)), (32, some (.arr true 1 [[.lf (.slice none 0 0)]]))]
  refine ⟨fun m s h => ∃ (i : Nat) (l : List RngX), i ≤ n ∧ l.length = i ∧ m = n - i ∧ s = S0 i ∧ h = H0 l, n, [(112, 112), (32, 32)], S0 0, H0 [], ⟨rfl, ⟨rfl, rfl, rfl, rfl, trivial⟩, rfl, rfl, trivial⟩, ⟨0, [], by omega, rfl, by omega, rfl, rfl⟩, ?_⟩
  rintro m _ _ ⟨i, l, g1, g2, rfl, rfl, rfl⟩
  conv => whnf
  refine br2 (fun h5 => ?_) (fun h5 => ?_)
  · have hi : i < n := by have := of_decide_eq_true h5; omega
    have hw : IntKind.i64.wrap (1000 + (i : Int)) = 1000 + (i : Int) := w64 (by omega) (by omega)
    conv => whnf
    refine ⟨⟨IntKind.i64.wrap (1000 + (i : Int)), by rw [hw]; omega, by rw [hw]; omega⟩, rfl, ?_⟩
    rintro _ _ ⟨rfl, rfl⟩
    conv => whnf
    have hs := numT_size (IntKind.i64.wrap (1000 + (i : Int)))
    refine ⟨(show 1 + (numT (IntKind.i64.wrap (1000 + (i : Int)))).size ≤ 4294967296 by omega), ?_⟩
    conv => whnf
    refine ⟨[⟨⟨#[107]⟩ ++ numT (IntKind.i64.wrap (1000 + (i : Int))), ⟨#[]⟩⟩], rfl, (show l.length + 1 ≤ 4294967296 by omega), ?_⟩
    conv => whnf
    exact ⟨n - (i + 1), [(320, 112), (32, 32)], S0 (i + 1), H0 (l ++ [_]), by omega, ⟨rfl, ⟨incI hi (by omega), rfl, rfl, rfl, trivial⟩, rfl, rfl, trivial⟩, i + 1, _, hi, by rw [List.length_append, g2]; rfl, rfl, rfl, rfl⟩
  · conv => whnf
    refine ⟨l, rfl, ?_⟩
    rintro _ _ ⟨rfl, N, ok, rfl, hr⟩
    conv => whnf
    exact ⟨⟨rfl, N, rfl, hr.tree⟩⟩
theorem l03Big_ok : FnOk Try.prog 150 cBig := fnOk_of fun x => fnX_at tab_ok (SOk.cons gh_ok (SOk.cons sNumText_ok (SOk.cons sTreeOf_ok SOk.nil))) mixed (fn := Try.f150) (code := body Try.f150) ⟨Try.func150, rfl, by kernel_rfl, by kernel_rfl, by kernel_rfl, by kernel_rfl⟩ (ev_l03Big x)
def cDTPut : Con := { X := CodeX, params := [(.keep, false)], res := [true, false, false], resOwn := false, ins := fun c => [[.row 1 encB c.b]], post := fun _ outs r => outs = [] ∧ ∃ N k v, r = [[.row 3 NodeX.ds N], [.lf (.string k)], [.lf (.string v)]] ∧ SmallT N }
theorem ev_drawTreePut : ∀ x, evFnX tab [(107, cNew), (123, cTAny), (144, (cDraw false strE (strP 17))), (125, cBelow), (150, cBig), (151, (cDraw false strE (strP 61)))] cDTPut Try.f70 (body Try.f70) x := by
  rintro ⟨l, hb⟩
  conv => whnf
  refine ⟨⟨l, hb⟩, rfl, ?_⟩
  rintro _ _ ⟨rfl, c, rfl⟩
  conv => whnf
  refine ⟨c, rfl, ?_⟩
  rintro _ _ ⟨c, N, rfl, rfl, hS⟩
  conv => whnf
  refine useDraw (c := c) rfl fun c k _ => ?_
  conv => whnf
  refine useBelow (c := c) (n := 60) rfl (by decide) fun c v v1 v2 _ => ?_
  conv => whnf
  refine br2 (fun h1 => ?_) (fun h1 => ?_)
  · conv => whnf
    refine useBelow (c := c) (n := 2) rfl (by decide) fun c u u1 u2 _ => ?_
    replace u2 : u < 2 := u2 (by decide)
    have hw : IntKind.i64.wrap (200 - u) = 200 - u := w64 (by omega) (by omega)
    conv => whnf
    refine ⟨⟨IntKind.i64.wrap (200 - u), by rw [hw]; omega, by rw [hw]; omega⟩, rfl, ?_⟩
    rintro _ _ ⟨rfl, N', rfl, hT⟩
    have hsm := hT.small
    have hS' : SmallT N' := ⟨by omega, fun n hn => by obtain ⟨a, b, c⟩ := hsm.2 n hn; exact ⟨by omega, by omega, by omega⟩⟩
    conv => whnf
    refine useDraw (c := c) rfl fun c x _ => ?_
    conv => whnf
    repeat ((first | refine rc_i rfl ?_ | refine rc_i (fun _ => rfl) ?_); conv => whnf)
    exact ⟨⟨rfl, N', k, x, rfl, hS'⟩⟩
  · conv => whnf
    refine useDraw (c := c) rfl fun c x _ => ?_
    conv => whnf
    repeat ((first | refine rc_i rfl ?_ | refine rc_i (fun _ => rfl) ?_); conv => whnf)
    exact ⟨⟨rfl, N, k, x, rfl, hS⟩⟩
theorem drawTreePut_ok : FnOk Try.prog 70 cDTPut := fnOk_of fun x => fnX_at tab_ok (SOk.cons l01New_ok (SOk.cons l03Any_ok (SOk.cons l02AnyKey_ok (SOk.cons l01Below_ok (SOk.cons l03Big_ok (SOk.cons l02AnyVal_ok SOk.nil)))))) mixed (fn := Try.f70) (code := body Try.f70) ⟨Try.func70, rfl, by kernel_rfl, by kernel_rfl, by kernel_rfl, by kernel_rfl⟩ (ev_drawTreePut x)
theorem getV_mem {M : List RngX} {q : RngX} (hs : Srt M) (hq : q ∈ M) : getV q.lo M = some q.hi := by
  obtain ⟨i, hi⟩ := List.getElem?_of_mem hq
  refine getV_at (fun a ha => ?_) hi rfl
  have e := at_split hi
  rw [e, Srt.app] at hs
  exact lt_ne (hs.2.2 a ha q (by simp))
theorem getV_self {L : List RngX} (p : RngX) (hs : Srt L) : getV p.lo (insL p L) = some p.hi := getV_mem (insL_srt hs) (mem_insL p L)
theorem getV_other {L : List RngX} {p q : RngX} (hs : Srt L) (hq : q ∈ L) (hne : q.lo ≠ p.lo) : getV q.lo (insL p L) = some q.hi := getV_mem (insL_srt hs) (mem_insL' hq hne)
theorem getV_cons (k : ByteArray) (x : RngX) (l : List RngX) : getV k (x :: l) = if eqK x.lo k then some x.hi else getV k l := by
  unfold getV
  rw [List.find?_cons]
  cases eqK x.lo k <;> rfl
theorem eqK_lt {a b : ByteArray} (h : strLt a b = true) : eqK a b = false ∧ eqK b a = false := by
  unfold eqK; simp [h]
theorem insL_count {p : RngX} {L : List RngX} (hs : Srt L) : (insL p L).length = if (getV p.lo L).isSome then L.length else L.length + 1 := by
  induction L with
  | nil => rfl
  | cons x l ih =>
    have h := List.pairwise_cons.1 hs
    have ih := ih h.2
    rw [getV_cons]
    unfold insL
    by_cases h1 : strLt x.lo p.lo = true
    · rw [if_pos h1, (eqK_lt h1).1, List.length_cons, ih]
      simp only [Bool.false_eq_true, if_false, List.length_cons]
      split <;> rfl
    · rw [if_neg h1]
      by_cases h2 : strLt p.lo x.lo = true
      · have : getV p.lo l = none := getV_no fun a ha e => by
          have := strLt_trans h2 (h.1 a ha)
          rw [e, strLt_irrefl] at this; cases this
        rw [if_pos h2, (eqK_lt h2).2, this]
        rfl
      · rw [if_neg h2]
        have : x.lo = p.lo := strLt_tri (by simpa using h1) (by simpa using h2)
        rw [if_pos (eqK_iff.2 this)]; rfl
theorem TPutR.same {N U U' : List NodeX} {p : RngX} {ok ok' : Bool} (h : TPutR N p U ok) (h' : TPutR N p U' ok') : U = U' ∧ ok = ok' := by
  by_cases hx : ∃ o, Vo o ∧ N = layO o ∧ kvOkB p = true ∧ (insL p (allO o)).length ≤ 200
  · obtain ⟨o, a, b, c, d⟩ := hx
    obtain ⟨rfl, rfl⟩ := h.yes o a b c d
    obtain ⟨rfl, rfl⟩ := h'.yes o a b c d
    exact ⟨rfl, rfl⟩
  · have no : ∀ o, Vo o → N = layO o → kvOkB p = true → ¬ (insL p (allO o)).length ≤ 200 := fun o a b c d => hx ⟨o, a, b, c, d⟩
    obtain ⟨rfl, rfl⟩ := h.no no
    obtain ⟨rfl, rfl⟩ := h'.no no
    exact ⟨rfl, rfl⟩
theorem TPutR.got {N U : List NodeX} {p : RngX} (h : TPutR N p U true) : ∃ o, Vo o ∧ N = layO o ∧ U = layO (some (putO o p)) ∧ Vo (some (putO o p)) ∧ (putO o p).all = insL p (allO o) := by
  by_cases hx : ∃ o, Vo o ∧ N = layO o ∧ kvOkB p = true ∧ (insL p (allO o)).length ≤ 200
  · obtain ⟨o, a, b, c, d⟩ := hx
    obtain ⟨e1, e2⟩ := a.put c d
    exact ⟨o, a, b, (h.yes o a b c d).2, e1, e2⟩
  · have := (h.no fun o a b c d => hx ⟨o, a, b, c, d⟩).1
    cases this
theorem TGetR.eq {N : List NodeX} {k v : ByteArray} {ok : Bool} {l : List RngX} (h : TGetR N k v ok) (hl : AllR N l) : getV k l = if ok then some v else none := h.yes l hl
theorem allR_of {o : Option Tw} (h : Vo o) : AllR (layO o) (allO o) := ⟨fun o' _ e => by rw [layO_inj e], fun hn => absurd ⟨o, h, rfl⟩ hn⟩
theorem ev_lawTree : ∀ x, evFnX tab [(70, cDTPut), (71, cTreePut), (72, cTreePut), (65, cTGet), (54, cTreeAll), (73, cTGet), (56, cTreeOk), (53, cTreeAll)] cLawB Try.f14 (body Try.f14) x := by
  rintro ⟨c⟩
  conv => whnf
  intro _
  conv => whnf
  refine br2 (fun h0 => ?_) (fun h0 => ?_)
  · conv => whnf
    exact ⟨⟨rfl, rfl⟩⟩
  have hb : c.length ≤ 1048576 := by have h1 : ¬ (c.length : Int) > 1048576 := of_decide_eq_false h0; omega
  clear h0
  conv => whnf
  refine ⟨⟨c, hb⟩, rfl, ?_⟩
  rintro _ _ ⟨rfl, N, k, v, rfl, hS⟩
  obtain ⟨hN, hp⟩ := hS.x
  conv => whnf
  refine ⟨⟨⟨N, N.length, Nat.le_refl _, hN, hp⟩, k, v⟩, rfl, ?_⟩
  rintro _ _ ⟨rfl, U, ok, rfl, r1⟩
  conv => whnf
  refine ⟨⟨⟨N, N.length, Nat.le_refl _, hN, hp⟩, k, v⟩, rfl, ?_⟩
  rintro _ _ ⟨rfl, U', ok', rfl, r2⟩
  conv => whnf
  replace r1 : TPutR N ⟨k, v⟩ U ok := r1
  obtain ⟨rfl, rfl⟩ := r1.same r2
  have hk0 : (ok != ok) = false := by cases ok <;> rfl
  refine br2 (fun h5 => ?_) (fun h5 => ?_)
  · exact absurd (hk0.symm.trans h5) (by simp)
  clear h5
  cases ok with
  | false =>
    obtain rfl : U = [] := by
      by_cases hx : ∃ o, Vo o ∧ N = layO o ∧ kvOkB ⟨k, v⟩ = true ∧ (insL ⟨k, v⟩ (allO o)).length ≤ 200
      · obtain ⟨o, a, b, c, d⟩ := hx
        have := (r1.yes o a b c d).1
        cases this
      · exact (r1.no fun o a b c d => hx ⟨o, a, b, c, d⟩).2
    conv => whnf
    intro _
    conv => whnf
    exact ⟨⟨rfl, rfl⟩⟩
  | true =>
  obtain ⟨o, vo, rfl, rfl, vp, hal⟩ := r1.got
  clear r1 r2
  have hs := vo.ok.srt
  have hl := vo.ok.len
  have aN := allR_of vo
  have aU := allR_of vp
  have hTU : TreeP (layO (some (putO o ⟨k, v⟩))) := ⟨_, vp, rfl⟩
  have sm := TreeP.small ⟨_, vp, rfl⟩
  have hU : (layO (some (putO o ⟨k, v⟩))).length ≤ 1048576 ∧ ∀ n ∈ layO (some (putO o ⟨k, v⟩)), n.ps.length ≤ 1048576 := ⟨by omega, fun n hn => by have := (sm.2 n hn).1; omega⟩
  replace aU : AllR (layO (some (putO o ⟨k, v⟩))) (insL ⟨k, v⟩ (allO o)) := hal ▸ aU
  generalize layO (some (putO o ⟨k, v⟩)) = U at *
  conv => whnf
  refine ⟨⟨⟨U, U.length, Nat.le_refl _, hU.1, hU.2⟩, k⟩, rfl, ?_⟩
  rintro _ _ ⟨rfl, g, there, rfl, tg1⟩
  conv => whnf
  replace tg1 : TGetR U k g there := tg1
  have e1 := tg1.eq aU
  rw [show k = (⟨k, v⟩ : RngX).lo from rfl, getV_self ⟨k, v⟩ hs] at e1
  obtain ⟨rfl, rfl⟩ : there = true ∧ g = v := by
    cases there with
    | false => cases e1
    | true => cases e1; exact ⟨rfl, rfl⟩
  clear e1 tg1
  refine ⟨⟨layO o, _, Nat.le_refl _, hN, hp⟩, rfl, ?_⟩
  rintro _ _ ⟨rfl, l, rfl, al⟩
  conv => whnf
  replace al : AllR (layO o) l := al
  obtain rfl : l = allO o := al.uniq aN
  generalize allO o = l at *
  intro _
  conv => whnf
  let S0 : Nat → Sl := fun i => [(60, .lf (.int .i64 i)), (59, .lf (.int .i64 l.length)), (58, .sl 928 none), (4, .lf (.string k)), (5, .lf (.string g)), (3, .pt 48 0 0), (6, .pt 96 0 0), (10, .lf (.string g)), (11, .lf (.bool true))]
  let H0 : Hp := [(928, some (.row .own 2 RngX.ds l)), (48, some (.arr true 1 [[.sl 384 none]])), (384, some (.row .ro 3 NodeX.ds (layO o))), (96, some (.arr true 1 [[.sl 512 none]])), (512, some (.row .own 3 NodeX.ds U))]
  refine ⟨fun m s h => ∃ i : Nat, i ≤ l.length ∧ m = l.length - i ∧ s = S0 i ∧ h = H0, l.length, [(928, 928), (48, 48), (384, 384), (96, 96), (512, 512)], S0 0, H0, ⟨rfl, ⟨rfl, rfl, rfl, rfl, rfl, rfl, rfl, rfl, rfl, trivial⟩, rfl, rfl, rfl, rfl, rfl, trivial⟩, ⟨0, by omega, by omega, rfl, rfl⟩, ?_⟩
  rintro m _ _ ⟨i, g1, rfl, rfl, rfl⟩
  conv => whnf
  refine br2 (fun h5 => ?_) (fun h5 => ?_)
  · have hi : i < l.length := by have := of_decide_eq_true h5; omega
    obtain ⟨y, hy⟩ := getL hi
    conv => whnf
    refine ⟨Int.natCast_nonneg _, ltI hy, ?_⟩
    conv => whnf
    refine ex2 _ (nthI hy) ?_
    conv => whnf
    refine ⟨⟨⟨U, U.length, Nat.le_refl _, hU.1, hU.2⟩, y.lo⟩, rfl, ?_⟩
    rintro _ _ ⟨rfl, w, is, rfl, tg2⟩
    conv => whnf
    replace tg2 : TGetR U y.lo w is := tg2
    have e2 := tg2.eq aU
    have back : ∀ {s' : Sl} {h' : Hp}, Le [(928, 928), (48, 48), (384, 384), (96, 96), (512, 512)] (S0 (i + 1)) H0 s' h' → ∃ m' ρ s'' h'', m' < l.length - i ∧ Le ρ s'' h'' s' h' ∧ ∃ i, i ≤ l.length ∧ m' = l.length - i ∧ s'' = S0 i ∧ h'' = H0 := fun hle =>
      ⟨l.length - (i + 1), _, S0 (i + 1), H0, by omega, hle, i + 1, hi, rfl, rfl, rfl⟩
    have hinc := incI hi (show l.length ≤ 9223372036854775807 by omega)
    refine br2 (fun h6 => ?_) (fun h6 => ?_)
    · have h6' : y.lo ≠ k := fun e => by
        replace h6 : (!strEq y.lo k) = true := h6
        rw [e, strEq_refl] at h6; cases h6
      rw [getV_other (p := ⟨k, g⟩) hs (List.mem_of_getElem? hy) h6'] at e2
      obtain ⟨rfl, rfl⟩ : is = true ∧ w = y.hi := by
        cases is with
        | false => cases e2
        | true => cases e2; exact ⟨rfl, rfl⟩
      conv => whnf
      refine br2 (fun h7 => ?_) (fun h7 => ?_)
      · exfalso
        replace h7 : (!strEq y.hi y.hi) = true := h7
        rw [strEq_refl] at h7; cases h7
      · conv => whnf
        exact back ⟨rfl, ⟨hinc, rfl, rfl, rfl, rfl, rfl, rfl, rfl, rfl, trivial⟩, rfl, rfl, rfl, rfl, rfl, trivial⟩
    · conv => whnf
      exact back ⟨rfl, ⟨hinc, rfl, rfl, rfl, rfl, rfl, rfl, rfl, rfl, trivial⟩, rfl, rfl, rfl, rfl, rfl, trivial⟩
  · clear h5
    conv => whnf
    refine ⟨⟨⟨layO o, _, Nat.le_refl _, hN, hp⟩, k⟩, rfl, ?_⟩
    rintro _ _ ⟨rfl, w, had, rfl, tg2⟩
    conv => whnf
    replace tg2 : TGetR (layO o) k w had := tg2
    have e2 := tg2.eq aN
    refine ⟨⟨layO o, _, Nat.le_refl _, hN, hp⟩, rfl, ?_⟩
    rintro _ _ ⟨rfl, l', rfl, al'⟩
    conv => whnf
    obtain rfl : l' = l := AllR.uniq al' aN
    have cnt := insL_count (p := ⟨k, g⟩) hs
    replace cnt : (insL ⟨k, g⟩ l').length = if (getV k l').isSome then l'.length else l'.length + 1 := cnt
    rw [e2] at cnt
    have hw : IntKind.i64.wrap ((l'.length : Int) + 1) = ((l'.length + 1 : Nat) : Int) := by rw [w64 (by omega) (by omega)]; omega
    have hg : strEq g g = true := strEq_refl g
    have fin : ∀ n : Int, n = ((insL ⟨k, g⟩ l').length : Int) → [[D.lf (.bool (((insL ⟨k, g⟩ l').length : Int) == n))]] = [[D.lf (.bool true)]] := fun n e => by rw [e]; simp
    intro _
    conv => whnf
    cases had with
    | true =>
      replace cnt : (insL ⟨k, g⟩ l').length = l'.length := cnt
      conv => whnf
      refine br2 (fun h8 => ?_) (fun h8 => ?_)
      · conv => whnf
        refine ⟨⟨U, _, Nat.le_refl _, hU.1, hU.2⟩, rfl, ?_⟩
        rintro _ _ ⟨rfl, b, rfl, e⟩
        conv => whnf
        obtain rfl : b = true := e.2 hTU
        conv => whnf
        refine ⟨⟨U, _, Nat.le_refl _, hU.1, hU.2⟩, rfl, ?_⟩
        rintro _ _ ⟨rfl, l2, rfl, al2⟩
        conv => whnf
        obtain rfl : l2 = insL ⟨k, g⟩ l' := AllR.uniq al2 aU
        intro _
        conv => whnf
        exact ⟨⟨rfl, fin _ (by rw [cnt])⟩⟩
      · exact absurd (hg.symm.trans h8) (by simp)
    | false =>
      replace cnt : (insL ⟨k, g⟩ l').length = l'.length + 1 := cnt
      conv => whnf
      refine br2 (fun h8 => ?_) (fun h8 => ?_)
      · conv => whnf
        refine ⟨⟨U, _, Nat.le_refl _, hU.1, hU.2⟩, rfl, ?_⟩
        rintro _ _ ⟨rfl, b, rfl, e⟩
        conv => whnf
        obtain rfl : b = true := e.2 hTU
        conv => whnf
        refine ⟨⟨U, _, Nat.le_refl _, hU.1, hU.2⟩, rfl, ?_⟩
        rintro _ _ ⟨rfl, l2, rfl, al2⟩
        conv => whnf
        obtain rfl : l2 = insL ⟨k, g⟩ l' := AllR.uniq al2 aU
        intro _
        conv => whnf
        exact ⟨⟨rfl, fin _ (by rw [cnt, ← hw])⟩⟩
      · exact absurd (hg.symm.trans h8) (by simp)
theorem lawTree_ok : FnOk Try.prog 14 cLawB := fnOk_of fun x => fnX_at tab_ok (SOk.cons drawTreePut_ok (SOk.cons iTreePut_ok (SOk.cons sTreePut_ok (SOk.cons iTreeGet_ok (SOk.cons sTreeAll_ok (SOk.cons sTreeGet_ok (SOk.cons iTreeOk_ok (SOk.cons iTreeAll_ok SOk.nil)))))))) mixed (fn := Try.f14) (code := body Try.f14) ⟨Try.func14, rfl, by kernel_rfl, by kernel_rfl, by kernel_rfl, by kernel_rfl⟩ (ev_lawTree x)
end Go.Vm
