/- Contracts: edits of trees, both sides. -/
import Derived.Test.YtedffkngbjlgdaaKb
import Derived.Test.YtedffkngbjlgdaaKa
namespace Go.Vm
open Go.Proofs
set_option maxRecDepth 100000
set_option linter.unusedVariables false
set_option linter.unusedSimpArgs false

theorem edOk_at {l : List EdX} {i : Nat} {y : EdX} (h : ∀ e ∈ l.take i, edOkB e = true) (hy : l[i]? = some y) (hk : edOkB y = true) : ∀ e ∈ l.take (i + 1), edOkB e = true := by
  intro e he
  rw [List.take_add_one, hy] at he
  simp at he
  rcases he with he | rfl
  · exact h e he
  · exact hk
theorem stepE_drop {o : Option Tw} {k v : ByteArray} : stepE o ⟨k, v, true⟩ = some (dropO o k) := by
  unfold stepE
  rw [if_pos rfl]
theorem stepE_put {o : Option Tw} {k v : ByteArray} (h : (insL (⟨k, v⟩ : RngX) (allO o)).length ≤ 200) : stepE o ⟨k, v, false⟩ = some (some (putO o ⟨k, v⟩)) := by
  unfold stepE
  rw [if_neg (by simp), if_pos (show (insL (EdX.p ⟨k, v, false⟩) (allO o)).length ≤ 200 from h)]; rfl
theorem stepE_full {o : Option Tw} {k v : ByteArray} (h : ¬ (insL (⟨k, v⟩ : RngX) (allO o)).length ≤ 200) : stepE o ⟨k, v, false⟩ = none := by
  unfold stepE
  rw [if_neg (by simp), if_neg (show ¬ (insL (EdX.p ⟨k, v, false⟩) (allO o)).length ≤ 200 from h)]
theorem ev_iBatchOk : ∀ x, evFnX tab [(34, cKeyOk), (35, (cS1 valOkB))] cBatch Try.f56 (body Try.f56) x := by
  intro (l : List EdX)
  conv => whnf
  intro hl
  replace hl : l.length ≤ 9223372036854775807 := hl
  conv => whnf
  let S0 : Nat → Sl := fun i => [(7, .lf (.int .i64 i)), (6, .lf (.int .i64 l.length)), (5, .sl 0 none), (0, .sl 0 none)]
  let H0 : Hp := [(0, some (.row .lent 3 EdX.ds l))]
  refine ⟨fun m s h => ∃ i : Nat, i ≤ l.length ∧ (∀ e ∈ l.take i, edOkB e = true) ∧ m = l.length - i ∧ s = S0 i ∧ h = H0, l.length, [(0, 0)], S0 0, H0, ⟨rfl, ⟨rfl, rfl, rfl, rfl, trivial⟩, rfl, trivial⟩, ⟨0, by omega, by simp, by omega, rfl, rfl⟩, ?_⟩
  rintro m _ _ ⟨i, g1, g2, rfl, rfl, rfl⟩
  conv => whnf
  refine br2 (fun h5 => ?_) (fun h5 => ?_)
  · have hi : i < l.length := by have := of_decide_eq_true h5; omega
    obtain ⟨y, hy⟩ := getL hi
    have hym := List.mem_of_getElem? hy
    have bad : edOkB y = false → (false = true ↔ BatchP l) := fun h => ⟨fun e => (by cases e), fun e => (by rw [e.ok y hym] at h; cases h)⟩
    have back : ∀ {s' : Sl} {h' : Hp}, edOkB y = true → Le [(0, 0)] (S0 (i + 1)) H0 s' h' → ∃ m' ρ s'' h'', m' < l.length - i ∧ Le ρ s'' h'' s' h' ∧ ∃ i, i ≤ l.length ∧ (∀ e ∈ l.take i, edOkB e = true) ∧ m' = l.length - i ∧ s'' = S0 i ∧ h'' = H0 := fun hk hle =>
      ⟨l.length - (i + 1), _, _, _, by omega, hle, i + 1, hi, edOk_at g2 hy hk, rfl, rfl, rfl⟩
    have hinc := incI hi hl
    obtain ⟨k, v, g⟩ := y
    have ek : edOkB ⟨k, v, g⟩ = (keyOkB k && valOkB v && !(g && !emp v)) := rfl
    conv => whnf
    refine ⟨Int.natCast_nonneg _, ltI hy, ?_⟩
    conv => whnf
    refine ex2 _ (nthI hy) ?_
    conv => whnf
    refine ⟨k, rfl, ?_⟩
    rintro _ _ ⟨rfl, rfl⟩
    conv => whnf
    cases hk : keyOkB k with
    | false =>
      conv => whnf
      exact ⟨⟨rfl, false, rfl, bad (by rw [ek, hk]; rfl)⟩⟩
    | true =>
    conv => whnf
    refine ⟨v, rfl, ?_⟩
    rintro _ _ ⟨rfl, rfl⟩
    conv => whnf
    cases hv : valOkB v with
    | false =>
      conv => whnf
      exact ⟨⟨rfl, false, rfl, bad (by rw [ek, hk, hv]; rfl)⟩⟩
    | true =>
    cases g with
    | false =>
      conv => whnf
      exact back (by rw [ek, hk, hv]; rfl) ⟨rfl, ⟨hinc, rfl, rfl, rfl, trivial⟩, rfl, trivial⟩
    | true =>
      conv => whnf
      refine br2 (fun h6 => ?_) (fun h6 => ?_)
      · conv => whnf
        exact ⟨⟨rfl, false, rfl, bad (by
          replace h6 : (!emp v) = true := h6
          rw [ek, hk, hv, h6]; rfl)⟩⟩
      · conv => whnf
        exact back (by
          replace h6 : (!emp v) = false := h6
          rw [ek, hk, hv, h6]; rfl) ⟨rfl, ⟨hinc, rfl, rfl, rfl, trivial⟩, rfl, trivial⟩
  · have hi : i = l.length := by have := of_decide_eq_false h5; omega
    subst hi
    rw [List.take_length] at g2
    conv => whnf
    intro _
    conv => whnf
    refine ⟨⟨rfl, decide ((l.length : Int) ≤ 40), rfl, ?_⟩⟩
    rw [decide_eq_true_iff]
    exact ⟨fun h => ⟨by omega, g2⟩, fun h => by have := h.len; omega⟩
theorem iBatchOk_ok : FnOk Try.prog 56 cBatch := fnOk_of fun x => fnX_at tab_ok (SOk.cons iKeyOk_ok (SOk.cons iValOk_ok SOk.nil)) mixed (fn := Try.f56) (code := body Try.f56) ⟨Try.func56, rfl, by kernel_rfl, by kernel_rfl, by kernel_rfl, by kernel_rfl⟩ (ev_iBatchOk x)
theorem ev_sBatchOk : ∀ x, evFnX tab [(26, cKeyOk), (27, (cS1 valOkB))] cBatch Try.f54 (body Try.f54) x := by
  intro (l : List EdX)
  conv => whnf
  intro hl
  replace hl : l.length ≤ 9223372036854775807 := hl
  conv => whnf
  refine br2 (fun h1 => ?_) (fun h1 => ?_)
  · have h1' : 40 < l.length := by
      replace h1 : decide ((l.length : Int) > 40) = true := h1
      have := of_decide_eq_true h1; omega
    conv => whnf
    exact ⟨⟨rfl, false, rfl, fun h => (by cases h), fun h => absurd h.len (by omega)⟩⟩
  have h1' : l.length ≤ 40 := by
    replace h1 : decide ((l.length : Int) > 40) = false := h1
    have := of_decide_eq_false h1; omega
  conv => whnf
  intro _
  conv => whnf
  let S0 : Nat → Sl := fun i => [(10, .lf (.int .i64 i)), (9, .lf (.int .i64 l.length)), (8, .sl 0 none)]
  let H0 : Hp := [(0, some (.row .lent 3 EdX.ds l))]
  refine ⟨fun m s h => ∃ i : Nat, i ≤ l.length ∧ (∀ e ∈ l.take i, edOkB e = true) ∧ m = l.length - i ∧ s = S0 i ∧ h = H0, l.length, [(0, 0)], S0 0, H0, ⟨rfl, ⟨rfl, rfl, rfl, trivial⟩, rfl, trivial⟩, ⟨0, by omega, by simp, by omega, rfl, rfl⟩, ?_⟩
  rintro m _ _ ⟨i, g1, g2, rfl, rfl, rfl⟩
  conv => whnf
  refine br2 (fun h5 => ?_) (fun h5 => ?_)
  · have hi : i < l.length := by have := of_decide_eq_true h5; omega
    obtain ⟨y, hy⟩ := getL hi
    have hym := List.mem_of_getElem? hy
    have bad : edOkB y = false → (false = true ↔ BatchP l) := fun h => ⟨fun e => (by cases e), fun e => (by rw [e.ok y hym] at h; cases h)⟩
    have back : ∀ {s' : Sl} {h' : Hp}, edOkB y = true → Le [(0, 0)] (S0 (i + 1)) H0 s' h' → ∃ m' ρ s'' h'', m' < l.length - i ∧ Le ρ s'' h'' s' h' ∧ ∃ i, i ≤ l.length ∧ (∀ e ∈ l.take i, edOkB e = true) ∧ m' = l.length - i ∧ s'' = S0 i ∧ h'' = H0 := fun hk hle =>
      ⟨l.length - (i + 1), _, _, _, by omega, hle, i + 1, hi, edOk_at g2 hy hk, rfl, rfl, rfl⟩
    have hinc := incI hi hl
    obtain ⟨k, v, g⟩ := y
    have ek : edOkB ⟨k, v, g⟩ = (keyOkB k && valOkB v && !(g && !emp v)) := rfl
    conv => whnf
    refine ⟨Int.natCast_nonneg _, ltI hy, ?_⟩
    conv => whnf
    refine ex2 _ (nthI hy) ?_
    conv => whnf
    refine ⟨k, rfl, ?_⟩
    rintro _ _ ⟨rfl, rfl⟩
    conv => whnf
    cases hk : keyOkB k with
    | false =>
      conv => whnf
      exact ⟨⟨rfl, false, rfl, bad (by rw [ek, hk]; rfl)⟩⟩
    | true =>
    conv => whnf
    refine ⟨v, rfl, ?_⟩
    rintro _ _ ⟨rfl, rfl⟩
    conv => whnf
    cases hv : valOkB v with
    | false =>
      conv => whnf
      exact ⟨⟨rfl, false, rfl, bad (by rw [ek, hk, hv]; rfl)⟩⟩
    | true =>
    cases g with
    | false =>
      conv => whnf
      exact back (by rw [ek, hk, hv]; rfl) ⟨rfl, ⟨hinc, rfl, rfl, trivial⟩, rfl, trivial⟩
    | true =>
      conv => whnf
      refine br2 (fun h6 => ?_) (fun h6 => ?_)
      · conv => whnf
        exact ⟨⟨rfl, false, rfl, bad (by
          replace h6 : (!emp v) = true := h6
          rw [ek, hk, hv, h6]; rfl)⟩⟩
      · conv => whnf
        exact back (by
          replace h6 : (!emp v) = false := h6
          rw [ek, hk, hv, h6]; rfl) ⟨rfl, ⟨hinc, rfl, rfl, trivial⟩, rfl, trivial⟩
  · have hi : i = l.length := by have := of_decide_eq_false h5; omega
    subst hi
    rw [List.take_length] at g2
    conv => whnf
    exact ⟨⟨rfl, true, rfl, fun _ => ⟨h1', g2⟩, fun _ => rfl⟩⟩
theorem sBatchOk_ok : FnOk Try.prog 54 cBatch := fnOk_of fun x => fnX_at tab_ok (SOk.cons sKeyOk_ok (SOk.cons sValOk_ok SOk.nil)) mixed (fn := Try.f54) (code := body Try.f54) ⟨Try.func54, rfl, by kernel_rfl, by kernel_rfl, by kernel_rfl, by kernel_rfl⟩ (ev_sBatchOk x)
theorem ev_iTreeEdit : ∀ x, evFnX tab [(33, cRoot), (56, cBatch), (57, cDropA), (36, cPutA), (37, cAll), (38, cTreeOfI)] cTreeEdit Try.f23 (body Try.f23) x := by
  rintro ⟨⟨N, f, hf, hN, hp⟩, l⟩
  replace hN : N.length ≤ 1048576 := hN
  have bad : (¬ TreeP N ∨ ¬ BatchP l) → TEditR N l [] false := fun h => by
    refine ⟨fun o o' ho e h2 _ => ?_, fun _ => ⟨rfl, rfl⟩⟩
    rcases h with h | h
    · exact absurd ⟨o, ho, e⟩ h
    · exact absurd h2 h
  conv => whnf
  refine ⟨⟨N, N.length + 1, Nat.le_succ _, hN, hp⟩, rfl, ?_⟩
  rintro _ _ ⟨rfl, o, deep, ok, rfl, rr⟩
  replace rr : RootR N (N.length + 1) o deep ok := rr
  cases ok with
  | false =>
    obtain ⟨h1, rfl⟩ := rr.no rfl
    conv => whnf
    refine ⟨3, NodeX, NodeX.ds, fun _ => rfl, ?_⟩
    conv => whnf
    exact ⟨⟨rfl, [], false, rfl, bad (.inl h1)⟩⟩
  | true =>
  obtain ⟨h1, h2, h3, h4⟩ := rr.yes rfl
  have uni : ∀ o', Vo o' → N = layO o' → o' = o := fun o' _ e => layO_inj (by rw [← e, ← h2])
  let S0 : Nat → V → Sl := fun i v => [(26, .lf (.int .i64 i)), (25, .lf (.int .i64 l.length)), (24, .sl 16 none), (6, v), (4, .pt 64 0 0)]
  let H0 : Hp := [(16, some (.row .lent 3 EdX.ds l)), (64, some (.arr true 1 [[.lf (.slice none 0 0)]]))]
  let H1 : Nat → List RngX → List Tw → Hp := fun f u j => (9600, some (.arr true 2 [[.sl 9601 none, .sl 9602 none]])) :: (9601, some (.row .own 2 RngX.ds u)) :: (9602, some (.row .own 1 (twE f) j)) :: H0
  obtain ⟨o0, ho0⟩ : ∃ q, q = o := ⟨_, rfl⟩
  rw [← ho0] at h1 h2 h4
  have uni2 : ∀ o', Vo o' → N = layO o' → o' = o0 := fun o' a e => by rw [ho0]; exact uni o' a e
  clear uni rr h3
  have hd0 : ∀ x, o = some x → ∃ d, Shp true d x ∧ d ≤ N.length + 1 := fun x e => by
    rw [← ho0] at e; subst e
    obtain ⟨d, hd⟩ := h1.shp
    exact ⟨d, hd, by have : (deepO (some x)) = x.deep := rfl; rw [this, hd.deep] at h4; exact h4⟩
  rcases o with _ | ⟨us, is⟩
  all_goals
    conv => whnf
    refine ⟨l, rfl, ?_⟩
    rintro _ _ ⟨rfl, b, rfl, e⟩
    conv => whnf
    replace e : b = true ↔ BatchP l := e
    cases b with
    | false =>
      conv => whnf
      refine ⟨3, NodeX, NodeX.ds, fun _ => rfl, ?_⟩
      conv => whnf
      exact ⟨⟨rfl, [], false, rfl, bad (.inr fun h => by have := e.2 h; cases this)⟩⟩
    | true =>
    have hB := e.1 rfl
    have hl40 := hB.len
    conv => whnf
    intro _
    conv => whnf
    let I : Nat → Sl → Hp → Prop := fun m s h => ∃ (i : Nat) (o : Option Tw), i ≤ l.length ∧ editsO o0 (l.take i) = some o ∧ Vo o ∧ m = l.length - i ∧ (o = none ∧ s = S0 i (.lf (.pointer none)) ∧ h = H0 ∨ ∃ f u j d, o = some (.mk u j) ∧ Shp true d (.mk u j) ∧ d ≤ f + 1 ∧ s = S0 i (.pt 9600 0 0) ∧ h = H1 f u j)
    first
      | refine ⟨I, l.length, [(16, 16), (64, 64)], S0 0 (.lf (.pointer none)), H0, ⟨rfl, ⟨rfl, rfl, rfl, rfl, rfl, trivial⟩, rfl, rfl, trivial⟩, ⟨0, o0, by omega, rfl, h1, by omega, .inl ⟨ho0, rfl, rfl⟩⟩, ?_⟩
      | refine ⟨I, l.length, [(192, 9600), (193, 9601), (194, 9602), (16, 16), (64, 64)], S0 0 (.pt 9600 0 0), H1 N.length us is, ⟨rfl, ⟨rfl, rfl, rfl, rfl, rfl, trivial⟩, rfl, rfl, rfl, rfl, rfl, trivial⟩, ⟨0, o0, by omega, rfl, h1, by omega, .inr (by obtain ⟨d, a, b⟩ := hd0 _ rfl; exact ⟨N.length, us, is, d, ho0, a, b, rfl, rfl⟩)⟩, ?_⟩
    clear hd0 ho0
    rintro m _ _ ⟨i, oi, g1, g2, vo, rfl, ⟨rfl, rfl, rfl⟩ | ⟨f2, u, j, d, rfl, hd, hdf, rfl, rfl⟩⟩
    all_goals
      have hsh := vo.shp
      have hsrt := vo.ok.srt
      have hlen := vo.ok.len
      conv => whnf
      refine br2 (fun h5 => ?_) (fun h5 => ?_)
      · have hi : i < l.length := by have := of_decide_eq_true h5; omega
        obtain ⟨y, hy⟩ := getL hi
        have hok := hB.ok y (List.mem_of_getElem? hy)
        have hst0 := editsO_take hy g2
        have hinc := incI hi (show l.length ≤ 9223372036854775807 by omega)
        obtain ⟨ky, vy, gy⟩ := y
        cases gy with
        | true =>
          rw [stepE_drop] at hst0
          conv => whnf
          refine ⟨Int.natCast_nonneg _, ltI hy, ?_⟩
          conv => whnf
          refine ex2 _ (nthI hy) ?_
          conv => whnf
          first | refine ⟨⟨0, none, ky, fun x e => by cases e⟩, rfl, ?_⟩ | refine ⟨⟨f2 + 1, some (.mk u j), ky, fun x e => by cases e; exact ⟨d, hd, hdf, hsrt⟩⟩, rfl, ?_⟩
          rintro _ _ ⟨rfl, g, o2, rfl, hx, hg⟩
          replace hx : o2 = dropO _ ky := hx
          have vo2 := (stepE_vo vo hok stepE_drop).1
          replace vo2 : Vo (dropO _ ky) := vo2
          rw [← hx] at hst0 vo2
          rcases o2 with _ | ⟨u', j'⟩
          · conv => whnf
            exact ⟨l.length - (i + 1), [(16, 16), (64, 64)], S0 (i + 1) (.lf (.pointer none)), H0, by omega, ⟨rfl, ⟨hinc, rfl, rfl, rfl, rfl, trivial⟩, rfl, rfl, trivial⟩, i + 1, none, hi, hst0, vo2, rfl, .inl ⟨rfl, rfl, rfl⟩⟩
          · obtain ⟨d', a, b⟩ := hg _ rfl
            have hpos := a.pos
            obtain ⟨g, rfl⟩ : ∃ m, g = m + 1 := ⟨g - 1, by omega⟩
            conv => whnf
            exact ⟨l.length - (i + 1), [(560, 9600), (561, 9601), (562, 9602), (16, 16), (64, 64)], S0 (i + 1) (.pt 9600 0 0), H1 g u' j', by omega, ⟨rfl, ⟨hinc, rfl, rfl, rfl, rfl, trivial⟩, rfl, rfl, rfl, rfl, rfl, trivial⟩, i + 1, some (.mk u' j'), hi, hst0, vo2, rfl, .inr ⟨g, u', j', d', rfl, a, b, rfl, rfl⟩⟩
        | false =>
          conv => whnf
          refine ⟨Int.natCast_nonneg _, ltI hy, ?_⟩
          conv => whnf
          refine ex2 _ (nthI hy) ?_
          conv => whnf
          first | refine ⟨⟨0, none, ⟨ky, vy⟩, fun x e => by cases e⟩, rfl, ?_⟩ | refine ⟨⟨f2 + 1, some (.mk u j), ⟨ky, vy⟩, fun x e => by cases e; exact ⟨d, hd, hdf, hsrt⟩⟩, rfl, ?_⟩
          rintro _ _ ⟨rfl, g, ⟨u', j'⟩, rfl, hx, hg, d', hd', hdg'⟩
          replace hx : Tw.mk u' j' = putO _ (⟨ky, vy⟩ : RngX) := hx
          have hal := (putO_ok (⟨ky, vy⟩ : RngX) hsh).2 hsrt
          rw [← hx] at hal
          have hal2 : (Tw.mk u' j').all.length ≤ 201 := by rw [hal]; exact Nat.le_trans (insL_len _ _).2.1 (by omega)
          conv => whnf
          refine ⟨2, RngX, RngX.ds, fun _ => rfl, ?_⟩
          conv => whnf
          refine ⟨⟨⟨g + 1, .mk u' j', true, d', hd', hdg'⟩, [], by show 0 + (Tw.mk u' j').all.length ≤ 4294967296; omega⟩, rfl, ?_⟩
          rintro _ _ ⟨rfl, rfl⟩
          conv => whnf
          intro _
          conv => whnf
          refine br2 (fun h6 => ?_) (fun h6 => ?_)
          · replace h6 : decide ((([] ++ (Tw.mk u' j').all).length : Int) > 200) = true := h6
            rw [List.nil_append, hal] at h6
            have h6' := of_decide_eq_true h6
            rw [stepE_full (by omega)] at hst0
            conv => whnf
            refine ⟨3, NodeX, NodeX.ds, fun _ => rfl, ?_⟩
            conv => whnf
            refine ⟨⟨rfl, [], false, rfl, fun o2 o3 q1 q2 _ q4 => ?_, fun _ => ⟨rfl, rfl⟩⟩⟩
            replace q4 : editsO o2 l = some o3 := q4
            rw [uni2 o2 q1 q2, editsO_none hst0] at q4; cases q4
          · replace h6 : decide ((([] ++ (Tw.mk u' j').all).length : Int) > 200) = false := h6
            rw [List.nil_append, hal] at h6
            have h6' := of_decide_eq_false h6
            have hfit : (insL (⟨ky, vy⟩ : RngX) (allO _)).length ≤ 200 := Int.ofNat_le.1 (Int.not_lt.1 h6')
            have vo2 := (stepE_vo vo hok (stepE_put hfit)).1
            rw [stepE_put hfit, ← hx] at hst0
            rw [← hx] at vo2
            conv => whnf
            exact ⟨l.length - (i + 1), [(672, 9600), (673, 9601), (674, 9602), (16, 16), (64, 64)], S0 (i + 1) (.pt 9600 0 0), H1 g u' j', by omega, ⟨rfl, ⟨hinc, rfl, rfl, rfl, rfl, trivial⟩, rfl, rfl, rfl, rfl, rfl, trivial⟩, i + 1, some (.mk u' j'), hi, hst0, vo2, rfl, .inr ⟨g, u', j', d', rfl, hd', hdg', rfl, rfl⟩⟩
      · have hi : i = l.length := by have := of_decide_eq_false h5; omega
        subst hi
        rw [List.take_length] at g2
        have fin : ∀ o2, editsO o0 l = some o2 → TEditR N l (layO o2) true := fun o2 h => ⟨fun o3 o4 q1 q2 _ q4 => ⟨rfl, by
          rw [uni2 o3 q1 q2, h] at q4; cases q4; rfl⟩, fun q => by
          have := q o0 h1 h2 hB
          rw [h] at this; cases this⟩
        have hsz : ∀ d u j, Shp true d (.mk u j) → (Tw.mk u j).all.length ≤ 200 → (Tw.mk u j).size ≤ 4194304 := fun d u j a b => shp_lay a (by omega)
        conv => whnf
        first | refine ⟨⟨0, none, fun x e => by cases e⟩, rfl, ?_⟩ | refine ⟨⟨f2 + 1, some (.mk u j), fun x e => by cases e; exact ⟨true, d, hd, hdf, hsz d u j hd hlen⟩⟩, rfl, ?_⟩
        rintro _ _ ⟨rfl, rfl⟩
        conv => whnf
        exact ⟨⟨rfl, _, true, rfl, fin _ g2⟩⟩
theorem iTreeEdit_ok : FnOk Try.prog 23 cTreeEdit := fnOk_of fun x => fnX_at tab_ok (SOk.cons root_ok (SOk.cons iBatchOk_ok (SOk.cons dropAt_ok (SOk.cons putAt_ok (SOk.cons all_ok (SOk.cons treeOf_ok SOk.nil)))))) mixed (fn := Try.f23) (code := body Try.f23) ⟨Try.func23, rfl, by kernel_rfl, by kernel_rfl, by kernel_rfl, by kernel_rfl⟩ (ev_iTreeEdit x)
theorem top_self {d : Nat} {us : List RngX} {is : List Tw} (h : Shp true d (.mk us is)) : (Tw.mk us is).top = some (.mk us is) := by
  cases h with
  | leaf h1 h2 =>
    simp only [Tw.top, List.length_nil, Nat.add_zero]
    rw [if_neg (by simp at h1; omega)]
  | node h1 h2 h3 =>
    simp only [Tw.top, List.length_nil, Nat.zero_add]
    rw [if_neg (by omega)]
    match is, h1 with
    | _ :: _ :: _, _ => rfl
theorem root_top {o : Option Tw} {us : List RngX} {is : List Tw} (ho : Vo o) (h : o = none ∧ us = [] ∧ is = [] ∨ o = some (.mk us is) ∧ ∃ d, Shp true d (.mk us is) ∧ d ≤ 7) : TopOk 12 (.mk us is) ∧ (Tw.mk us is).top = o := by
  rcases h with ⟨rfl, rfl, rfl⟩ | ⟨rfl, d, hd, hd7⟩
  · exact ⟨.inl ⟨[], rfl, by simp⟩, rfl⟩
  · refine ⟨hd.low.topOk (by omega) ?_, top_self hd⟩
    have : (Tw.mk us is).all.length ≤ 200 := ho.ok.len
    omega
theorem ev_sTreeEdit : ∀ x, evFnX tab [(25, cTreeOk), (54, cBatch), (28, cSRoot), (31, cSTree), (55, cTreeDrop), (7, cTreePut)] cTreeEdit Try.f22 (body Try.f22) x := by
  rintro ⟨⟨N, f, hf, hN, hp⟩, l⟩
  replace hN : N.length ≤ 1048576 := hN
  have bad : (¬ TreeP N ∨ ¬ BatchP l) → TEditR N l [] false := fun h => by
    refine ⟨fun o o' ho e h2 _ => ?_, fun _ => ⟨rfl, rfl⟩⟩
    rcases h with h | h
    · exact absurd ⟨o, ho, e⟩ h
    · exact absurd h2 h
  conv => whnf
  refine ⟨⟨N, f, hf, hN, hp⟩, rfl, ?_⟩
  rintro _ _ ⟨rfl, b, rfl, e⟩
  conv => whnf
  replace e : b = true ↔ TreeP N := e
  cases b with
  | false =>
    have h1' : ¬ TreeP N := fun h => by have := e.2 h; cases this
    conv => whnf
    refine ⟨3, NodeX, NodeX.ds, fun _ => rfl, ?_⟩
    conv => whnf
    exact ⟨⟨rfl, [], false, rfl, bad (.inl h1')⟩⟩
  | true =>
  have hT : TreeP N := e.1 rfl
  clear e
  conv => whnf
  refine ⟨l, rfl, ?_⟩
  rintro _ _ ⟨rfl, b, rfl, e⟩
  conv => whnf
  replace e : b = true ↔ BatchP l := e
  cases b with
  | false =>
    conv => whnf
    refine ⟨3, NodeX, NodeX.ds, fun _ => rfl, ?_⟩
    conv => whnf
    exact ⟨⟨rfl, [], false, rfl, bad (.inr fun h => by have := e.2 h; cases this)⟩⟩
  | true =>
  have hB := e.1 rfl
  have hl40 := hB.len
  conv => whnf
  refine ⟨⟨N, f, hf, hN, hp⟩, rfl, ?_⟩
  rintro _ _ ⟨rfl, o, ok, rfl, rs⟩
  obtain ⟨rfl, us, is, o0, rfl, h1, h2, hcase⟩ := root_tree rs hT
  have uni2 : ∀ o', Vo o' → N = layO o' → o' = o0 := fun o' _ e => layO_inj (by rw [← e, ← h2])
  obtain ⟨tok, ttop⟩ := root_top h1 hcase
  clear rs hcase
  conv => whnf
  refine ⟨⟨12, .mk us is, tok⟩, rfl, ?_⟩
  rintro _ _ ⟨rfl, rfl⟩
  conv => whnf
  rw [ttop]
  intro _
  conv => whnf
  let S0 : Nat → Sl := fun i => [(30, .lf (.int .i64 i)), (29, .lf (.int .i64 l.length)), (28, .sl 16 none), (8, .pt 128 0 0), (4, .pt 64 0 0)]
  let H0 : List NodeX → Hp := fun M => [(16, some (.row .lent 3 EdX.ds l)), (64, some (.arr true 1 [[.lf (.slice none 0 0)]])), (128, some (.arr true 1 [[.sl 9600 none]])), (9600, some (.row .own 3 NodeX.ds M))]
  refine ⟨fun m s h => ∃ (i : Nat) (o : Option Tw), i ≤ l.length ∧ editsO o0 (l.take i) = some o ∧ Vo o ∧ m = l.length - i ∧ s = S0 i ∧ h = H0 (layO o), l.length, [(16, 16), (64, 64), (128, 128), (432, 9600)], S0 0, H0 (layO o0), ⟨rfl, ⟨rfl, rfl, rfl, rfl, rfl, trivial⟩, rfl, rfl, rfl, rfl, trivial⟩, ⟨0, o0, by omega, rfl, h1, by omega, rfl, rfl⟩, ?_⟩
  rintro m _ _ ⟨i, o, g1, g2, vo, rfl, rfl, rfl⟩
  have sm := TreeP.small ⟨_, vo, rfl⟩
  have hM : (layO o).length ≤ 1048576 ∧ ∀ n ∈ layO o, n.ps.length ≤ 1048576 := ⟨by omega, fun n hn => by have := (sm.2 n hn).1; omega⟩
  conv => whnf
  refine br2 (fun h5 => ?_) (fun h5 => ?_)
  · have hi : i < l.length := by have := of_decide_eq_true h5; omega
    obtain ⟨y, hy⟩ := getL hi
    have hok := hB.ok y (List.mem_of_getElem? hy)
    have hst0 := editsO_take hy g2
    have hinc := incI hi (show l.length ≤ 9223372036854775807 by omega)
    obtain ⟨ky, vy, gy⟩ := y
    obtain ⟨k1, k2⟩ := edOk_kv hok
    cases gy with
    | true =>
      have vo2 := (stepE_vo vo hok stepE_drop).1
      rw [stepE_drop] at hst0
      conv => whnf
      refine ⟨Int.natCast_nonneg _, ltI hy, ?_⟩
      conv => whnf
      refine ex2 _ (nthI hy) ?_
      conv => whnf
      refine ⟨⟨⟨layO o, _, Nat.le_refl _, hM.1, hM.2⟩, ky⟩, rfl, ?_⟩
      rintro _ _ ⟨rfl, U, ok, rfl, r1⟩
      obtain ⟨rfl, rfl⟩ := r1.yes o vo rfl k2
      conv => whnf
      exact ⟨l.length - (i + 1), [(16, 16), (64, 64), (128, 128), (640, 9600)], S0 (i + 1), H0 _, by omega, ⟨rfl, ⟨hinc, rfl, rfl, rfl, rfl, trivial⟩, rfl, rfl, rfl, rfl, trivial⟩, i + 1, dropO o ky, hi, hst0, vo2, rfl, rfl, rfl⟩
    | false =>
      conv => whnf
      refine ⟨Int.natCast_nonneg _, ltI hy, ?_⟩
      conv => whnf
      refine ex2 _ (nthI hy) ?_
      conv => whnf
      refine ⟨⟨⟨layO o, _, Nat.le_refl _, hM.1, hM.2⟩, ky, vy⟩, rfl, ?_⟩
      rintro _ _ ⟨rfl, U, ok, rfl, r1⟩
      by_cases hfit : (insL (⟨ky, vy⟩ : RngX) (allO o)).length ≤ 200
      · obtain ⟨rfl, rfl⟩ := r1.yes o vo rfl k1 hfit
        have vo2 := (stepE_vo vo hok (stepE_put hfit)).1
        rw [stepE_put hfit] at hst0
        conv => whnf
        exact ⟨l.length - (i + 1), [(16, 16), (64, 64), (128, 128), (784, 9600)], S0 (i + 1), H0 _, by omega, ⟨rfl, ⟨hinc, rfl, rfl, rfl, rfl, trivial⟩, rfl, rfl, rfl, rfl, trivial⟩, i + 1, some (putO o ⟨ky, vy⟩), hi, hst0, vo2, rfl, rfl, rfl⟩
      · obtain ⟨rfl, rfl⟩ := r1.no fun o2 q1 q2 _ q4 => by
          have : o2 = o := layO_inj q2.symm
          subst this
          exact hfit q4
        rw [stepE_full hfit] at hst0
        conv => whnf
        refine ⟨3, NodeX, NodeX.ds, fun _ => rfl, ?_⟩
        conv => whnf
        refine ⟨⟨rfl, [], false, rfl, fun o2 o3 q1 q2 _ q4 => ?_, fun _ => ⟨rfl, rfl⟩⟩⟩
        replace q4 : editsO o2 l = some o3 := q4
        rw [uni2 o2 q1 q2, editsO_none hst0] at q4; cases q4
  · have hi : i = l.length := by have := of_decide_eq_false h5; omega
    subst hi
    rw [List.take_length] at g2
    conv => whnf
    refine ⟨⟨rfl, _, true, rfl, fun o3 o4 q1 q2 _ q4 => ⟨rfl, ?_⟩, fun q => ?_⟩⟩
    · replace q4 : editsO o3 l = some o4 := q4
      rw [uni2 o3 q1 q2, g2] at q4; cases q4; rfl
    · have := q o0 h1 h2 hB
      replace this : editsO o0 l = none := this
      rw [g2] at this; cases this
theorem sTreeEdit_ok : FnOk Try.prog 22 cTreeEdit := fnOk_of fun x => fnX_at tab_ok (SOk.cons sTreeOk_ok (SOk.cons sBatchOk_ok (SOk.cons sRoot_ok (SOk.cons sTree_ok (SOk.cons sTreeDrop_ok (SOk.cons sTreePut_ok SOk.nil)))))) mixed (fn := Try.f22) (code := body Try.f22) ⟨Try.func22, rfl, by kernel_rfl, by kernel_rfl, by kernel_rfl, by kernel_rfl⟩ (ev_sTreeEdit x)
end Go.Vm
namespace Go.Vm
open Go.Proofs
set_option maxRecDepth 100000
set_option linter.unusedVariables false
set_option linter.unusedSimpArgs false

theorem TreeP.words4 {N : List NodeX} (h : TreeP N) : N.length ≤ 1048576 ∧ ∀ n ∈ N, nodeB n := by
  obtain ⟨h1, h2⟩ := h.small
  exact ⟨by omega, fun n hn => by obtain ⟨a, b, c⟩ := h2 n hn; exact ⟨by omega, by omega, by omega⟩⟩
structure TEditZ where
  N : List NodeX
  l : List EdX
  hN : nodesB0 N
  hl : l.length ≤ maxS ∧ ∀ y ∈ l, edB0 y
theorem ev_lawTreeEdit : ∀ x, evFnX tab [(6, (cSz treeDs nodesB0 nodesB)), (13, (cSzS 3 EdX.ds edB0 edB)), (8, (pureC NodesY [(.rd, true)] [true] (fun x => [treeDs x.l]) (fun x => [treeDs x.l]))), (15, (cCopyS 3 EdX.ds)), (22, cTreeEdit), (23, cTreeEdit), (10, (cEq treeDs)), (18, (cEqS 3 EdX.ds)), (11, (cMarkN true)), (19, (cMarkS 3 EdX.ds markE 3)), (12, (cHeldN true))] (pureC TEditZ [(.rd, true), (.rd, false)] [false] (fun x => [treeDs x.N, [.row 3 EdX.ds x.l]]) (fun _ => [[.lf (.bool true)]])) Try.f5 (body Try.f5) x := by
  rintro ⟨N, l, hN, hl0⟩
  conv => whnf
  refine ⟨⟨N, 1048576, by omega, by omega, hN⟩, rfl, ?_⟩
  rintro _ _ ⟨rfl, q, rfl, k1, k2, k3⟩
  conv => whnf
  replace k2 : q ≤ 1048576 := k2
  refine br2 (fun h3 => ?_) (fun h3 => ?_)
  · conv => whnf
    exact ⟨⟨rfl, rfl⟩⟩
  have h3' := of_decide_eq_false h3
  obtain ⟨hl, hb⟩ := k3 (by omega)
  replace hl : N.length ≤ 1048576 := hl
  replace hb : ∀ n ∈ N, nodeB n := hb
  have hp : ∀ n ∈ N, n.ps.length ≤ 1048576 := fun n hn => (hb n hn).1
  conv => whnf
  refine ⟨⟨l, q, by omega, by omega, hl0⟩, rfl, ?_⟩
  rintro _ _ ⟨rfl, q2, rfl, j1, j2, j3⟩
  conv => whnf
  replace j2 : q2 ≤ q := j2
  refine br2 (fun h4 => ?_) (fun h4 => ?_)
  · conv => whnf
    exact ⟨⟨rfl, rfl⟩⟩
  have h4' := of_decide_eq_false h4
  obtain ⟨hll, -⟩ := j3 (by omega)
  replace hll : (l.length : Int) + q2 ≤ q := hll
  have hlen : l.length ≤ 1048576 := by omega
  conv => whnf
  refine ⟨⟨N, hl, hb⟩, rfl, ?_⟩
  rintro _ _ ⟨rfl, rfl⟩
  conv => whnf
  refine ⟨⟨l, hlen⟩, rfl, ?_⟩
  rintro _ _ ⟨rfl, rfl⟩
  conv => whnf
  refine ⟨⟨⟨N, N.length, Nat.le_refl _, hl, hp⟩, l⟩, rfl, ?_⟩
  rintro _ _ ⟨rfl, U, ok, rfl, r1⟩
  conv => whnf
  refine ⟨⟨N, hl, hb⟩, rfl, ?_⟩
  rintro _ _ ⟨rfl, rfl⟩
  conv => whnf
  refine ⟨⟨l, hlen⟩, rfl, ?_⟩
  rintro _ _ ⟨rfl, rfl⟩
  conv => whnf
  refine ⟨⟨⟨N, N.length, Nat.le_refl _, hl, hp⟩, l⟩, rfl, ?_⟩
  rintro _ _ ⟨rfl, U', ok', rfl, r2⟩
  conv => whnf
  obtain ⟨rfl, rfl⟩ := TEditR.same r1 r2
  clear r2
  have hU := r1.treeP.words4
  have hN0 : (!eqX N N) = false := by rw [eqX_refl]; rfl
  have hU0 : (!eqX U U) = false := by rw [eqX_refl]; rfl
  have hl1 : (!eqX l l) = false := by rw [eqX_refl]; rfl
  have hW := nodesW_le hb
  have hW0 := nodesW_pos N
  have hV := nodesW_le hU.2
  have hV0 := nodesW_pos U
  have hk0 : (ok != ok) = false := by cases ok <;> rfl
  refine ⟨(U, U), rfl, ?_⟩
  rintro _ _ ⟨rfl, rfl⟩
  conv => whnf
  refine br2 (fun h4 => ?_) (fun h4 => ?_)
  · exact absurd (hU0.symm.trans h4) (by simp)
  conv => whnf
  refine br2 (fun h5 => ?_) (fun h5 => ?_)
  · exact absurd (hk0.symm.trans h5) (by simp)
  conv => whnf
  refine ⟨⟨N, hl, hb⟩, rfl, ?_⟩
  rintro _ _ ⟨rfl, rfl⟩
  conv => whnf
  repeat ((first | refine rc_i rfl ?_ | refine rc_i (fun _ => rfl) ?_); conv => whnf)
  refine ⟨(N, N), rfl, ?_⟩
  rintro _ _ ⟨rfl, rfl⟩
  conv => whnf
  repeat ((first | refine rc_i rfl ?_ | refine rc_i (fun _ => rfl) ?_); conv => whnf)
  refine br2 (fun h6 => ?_) (fun h6 => ?_)
  · exact absurd (hN0.symm.trans h6) (by simp)
  conv => whnf
  refine ⟨⟨l, hlen⟩, rfl, ?_⟩
  rintro _ _ ⟨rfl, rfl⟩
  conv => whnf
  refine ⟨(l, l), rfl, ?_⟩
  rintro _ _ ⟨rfl, rfl⟩
  conv => whnf
  refine br2 (fun h6 => ?_) (fun h6 => ?_)
  · exact absurd (hl1.symm.trans h6) (by simp)
  conv => whnf
  refine ⟨⟨N, 1, by omega, by omega, hl, hb⟩, rfl, ?_⟩
  rintro _ _ ⟨rfl, rfl⟩
  conv => whnf
  refine ⟨⟨⟨l, 1 + nodesW N, by omega, by omega⟩, hlen⟩, rfl, ?_⟩
  rintro _ _ ⟨rfl, rfl⟩
  conv => whnf
  refine br2 (fun h7 => ?_) (fun h7 => ?_)
  · exfalso
    have : 1 + nodesW N + 3 * (l.length : Int) < 0 := of_decide_eq_true h7
    omega
  conv => whnf
  refine ⟨(U, U), rfl, ?_⟩
  rintro _ _ ⟨rfl, rfl⟩
  conv => whnf
  refine br2 (fun h4 => ?_) (fun h4 => ?_)
  · exact absurd (hU0.symm.trans h4) (by simp)
  conv => whnf
  refine br2 (fun h5 => ?_) (fun h5 => ?_)
  · exact absurd (hk0.symm.trans h5) (by simp)
  conv => whnf
  refine ⟨⟨U, 1, by omega, by omega, hU.1, hU.2⟩, rfl, ?_⟩
  rintro _ _ ⟨rfl, rfl⟩
  conv => whnf
  refine ⟨⟨U, 1, by omega, by omega, hU.1, hU.2⟩, rfl, ?_⟩
  rintro _ _ ⟨rfl, rfl⟩
  conv => whnf
  refine br2 (fun h6 => ?_) (fun h6 => ?_)
  · exfalso
    have : 1 + nodesW U < 0 := of_decide_eq_true h6
    omega
  conv => whnf
  refine br2 (fun h7 => ?_) (fun h7 => ?_)
  · exfalso
    replace h7 : ((1 + nodesW U) != (1 + nodesW U)) = true := h7
    simp at h7
  conv => whnf
  refine ⟨⟨N, hl, hb⟩, rfl, ?_⟩
  rintro _ _ ⟨rfl, rfl⟩
  conv => whnf
  refine ⟨⟨l, hlen⟩, rfl, ?_⟩
  rintro _ _ ⟨rfl, rfl⟩
  conv => whnf
  refine ⟨⟨⟨N, N.length, Nat.le_refl _, hl, hp⟩, l⟩, rfl, ?_⟩
  rintro _ _ ⟨rfl, U', ok', rfl, r2⟩
  conv => whnf
  obtain ⟨rfl, rfl⟩ := TEditR.same r1 r2
  clear r2
  refine ⟨(U, U), rfl, ?_⟩
  rintro _ _ ⟨rfl, rfl⟩
  conv => whnf
  refine br2 (fun h4 => ?_) (fun h4 => ?_)
  · exact absurd (hU0.symm.trans h4) (by simp)
  conv => whnf
  refine br2 (fun h5 => ?_) (fun h5 => ?_)
  · exact absurd (hk0.symm.trans h5) (by simp)
  conv => whnf
  refine ⟨⟨U, 1, by omega, by omega, hU.1, hU.2⟩, rfl, ?_⟩
  rintro _ _ ⟨rfl, rfl⟩
  conv => whnf
  refine br2 (fun h6 => ?_) (fun h6 => ?_)
  · exfalso
    have : 1 + nodesW U < 0 := of_decide_eq_true h6
    omega
  conv => whnf
  refine br2 (fun h7 => ?_) (fun h7 => ?_)
  · exfalso
    replace h7 : ((1 + nodesW U) != (1 + nodesW U)) = true := h7
    simp at h7
  conv => whnf
  exact ⟨⟨rfl, rfl⟩⟩
theorem lawTreeEdit_ok : FnOk Try.prog 5 (pureC TEditZ [(.rd, true), (.rd, false)] [false] (fun x => [treeDs x.N, [.row 3 EdX.ds x.l]]) (fun _ => [[.lf (.bool true)]])) := fnOk_of fun x => fnX_at tab_ok (SOk.cons szTree_ok (SOk.cons szEditS_ok (SOk.cons toTree_ok (SOk.cons toEditS_ok (SOk.cons sTreeEdit_ok (SOk.cons iTreeEdit_ok (SOk.cons eqTree_ok (SOk.cons eqEditS_ok (SOk.cons markTree_ok (SOk.cons markEditS_ok (SOk.cons heldTree_ok SOk.nil))))))))))) mixed (fn := Try.f5) (code := body Try.f5) ⟨Try.func5, rfl, by kernel_rfl, by kernel_rfl, by kernel_rfl, by kernel_rfl⟩ (ev_lawTreeEdit x)
end Go.Vm
