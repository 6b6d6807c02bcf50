/- Contracts: trees that are drawn. -/
import Derived.Test.YtlbeppaimfpchaaKb
import Derived.Test.YtlbeppaimfpchaaKa
namespace Go.Vm
open Go.Proofs
set_option maxRecDepth 100000
set_option linter.unusedVariables false
set_option linter.unusedSimpArgs false

/-- Nodes that are small. -/
def nodeS (n : NodeX) : Prop := n.ps.length ≤ 5 ∧ n.keys.length ≤ 5 ∧ n.kids.length ≤ 5
mutual
theorem Shp.nodes : ∀ (x : Tw) {b : Bool} {d : Nat}, Shp b d x → ∀ (a : Nat), ∀ n ∈ x.lay a, n.ps.length ≤ 4 ∧ n.keys.length ≤ 4 ∧ n.kids.length ≤ 4
  | .mk ps ks, b, d, h, a, n, hn => by
    simp only [Tw.lay, List.mem_cons] at hn
    have h1 : ps.length ≤ 4 := by cases h <;> simp_all
    have h2 : ks.length ≤ 4 := by cases h <;> simp_all
    have h3 : ∀ k ∈ ks, ∃ b d, Shp b d k := by
      intro k hk
      cases h with
      | leaf => simp at hk
      | node _ _ h3 => exact ⟨_, _, h3 k hk⟩
    rcases hn with rfl | hn
    · refine ⟨h1, ?_, ?_⟩
      · simp; omega
      · rw [kidsAt_len]; exact h2
    · exact Shp.nodesL ks h3 _ n hn
theorem Shp.nodesL : ∀ (ks : List Tw), (∀ k ∈ ks, ∃ b d, Shp b d k) → ∀ (a : Nat), ∀ n ∈ Tw.lays ks a, n.ps.length ≤ 4 ∧ n.keys.length ≤ 4 ∧ n.kids.length ≤ 4
  | [], _, a, n, hn => by simp [Tw.lays] at hn
  | k :: ks, h, a, n, hn => by
    simp only [Tw.lays, List.mem_append] at hn
    rcases hn with hn | hn
    · obtain ⟨b, d, hk⟩ := h k (by simp)
      exact Shp.nodes k hk _ n hn
    · exact Shp.nodesL ks (fun k' hk' => h k' (by simp [hk'])) _ n hn
end
/-- A tree that is small, right or not. -/
structure SmallT (N : List NodeX) : Prop where
  len : N.length ≤ 201
  nodes : ∀ n ∈ N, nodeS n
theorem TreeP.small {N : List NodeX} (h : TreeP N) : N.length ≤ 200 ∧ ∀ n ∈ N, n.ps.length ≤ 4 ∧ n.keys.length ≤ 4 ∧ n.kids.length ≤ 4 := by
  obtain ⟨o, ho, rfl⟩ := h
  refine ⟨ho.lay_le, ?_⟩
  cases o with
  | none => intro n hn; simp [layO] at hn
  | some x =>
    obtain ⟨d, hd⟩ := ho.shp
    exact Shp.nodes x hd 0
theorem treeP_nil : TreeP [] := ⟨none, ⟨trivial, ⟨by simp [allO], fun p hp => by simp [allO] at hp, List.Pairwise.nil⟩⟩, rfl⟩
theorem TPutR.tree {N N' : List NodeX} {p : RngX} {ok : Bool} (h : TPutR N p N' ok) (hT : TreeP N) (hok : ok = true) : TreeP N' := by
  obtain ⟨o, ho, e⟩ := hT
  by_cases hk : kvOkB p = true ∧ (insL p (allO o)).length ≤ 200
  · obtain ⟨_, h2⟩ := h.yes o ho e hk.1 hk.2
    exact ⟨_, (ho.put hk.1 hk.2).1, h2⟩
  · have := (h.no fun o' ho' e' h1 h2 => by
      have : o' = o := layO_inj (by rw [← e', ← e])
      subst this
      exact hk ⟨h1, h2⟩).1
    rw [this] at hok; cases hok
theorem TDropR.tree {N N' : List NodeX} {k : ByteArray} {ok : Bool} (h : TDropR N k N' ok) (hT : TreeP N) : TreeP N' := by
  cases hk : keyOkB k with
  | true =>
    obtain ⟨o, ho, e⟩ := hT
    obtain ⟨_, h2⟩ := h.yes o ho e hk
    exact ⟨_, (ho.drop k).1, h2⟩
  | false =>
    rw [(h.no fun _ => hk).2]; exact treeP_nil
theorem ev_l02Val : ∀ x, evFnX tab [(125, cBelow), (78, cNumText)] (cDraw false strE (strP 60)) Try.f190 (body Try.f190) x := by
  intro c
  conv => whnf
  refine useBelow (c := c) (n := 12) rfl (by decide) fun c k k1 k2 _ => ?_
  conv => whnf
  refine br2 (fun h => ?_) (fun _ => ?_)
  · conv => whnf
    exact ⟨⟨c, ⟨#[]⟩, rfl, rfl, (show (0 : Nat) ≤ 60 by decide)⟩⟩
  conv => whnf
  refine br2 (fun h => ?_) (fun _ => ?_)
  · conv => whnf
    refine ⟨by decide, rfl, by decide, ?_⟩
    conv => whnf
    refine ⟨UInt8, encB, 0, fun _ => rfl, rfl, ?_⟩
    conv => whnf
    refine ⟨List.replicate (60 : Int).toNat 0, rfl, ?_⟩
    conv => whnf
    refine ⟨⟨c, _, rfl, rfl, ?_⟩⟩
    show (List.replicate (60 : Int).toNat (0 : UInt8)).toArray.size ≤ 60
    simp
  conv => whnf
  refine useBelow (c := c) (n := 50) rfl (by decide) fun c v a1 a2 _ => ?_
  replace a2 : v < 50 := a2 (by decide)
  conv => whnf
  refine ⟨⟨v, by omega, by omega⟩, rfl, ?_⟩
  rintro _ _ ⟨rfl, rfl⟩
  have hs := numT_size v
  conv => whnf
  refine ⟨(show 1 + (numT v).size ≤ 4294967296 by omega), ?_⟩
  conv => whnf
  refine ⟨⟨c, ⟨#[118]⟩ ++ numT v, rfl, rfl, ?_⟩⟩
  show (ByteArray.mk #[118] ++ numT v).size ≤ 60
  rw [ByteArray.size_append]
  show 1 + (numT v).size ≤ 60
  omega
theorem l02Val_ok : FnOk Try.prog 190 (cDraw false strE (strP 60)) := fnOk_of fun x => fnX_at tab_ok (SOk.cons l01Below_ok (SOk.cons sNumText_ok SOk.nil)) mixed (fn := Try.f190) (code := body Try.f190) ⟨Try.func190, rfl, by kernel_rfl, by kernel_rfl, by kernel_rfl, by kernel_rfl⟩ (ev_l02Val x)
end Go.Vm
namespace Go.Vm
open Go.Proofs
set_option maxRecDepth 100000
set_option linter.unusedVariables false
set_option linter.unusedSimpArgs false

def nm (d : Nat) : Nat := 16 * (300000 + 8 * d)
structure DrwX where
  c : CurX
  n : Int
  h0 : 0 ≤ n
  h1 : n ≤ 1000
def cTDraw : Con := { X := DrwX, params := [(.mut, false), (.rd, false)], res := [true], resOwn := true, ins := fun x => [[x.c.d], [.lf (.int .i64 x.n)]], post := fun _ outs r => ∃ (c : CurX) (N : List NodeX), outs = [[c.d]] ∧ r = [[.row 3 NodeX.ds N]] ∧ TreeP N }
theorem ev_l03Draw : ∀ x, evFnX tab [(1000002, cGh), (125, cBelow), (181, (cDraw false strE (strP 16))), (190, (cDraw false strE (strP 60))), (64, cTreeDrop), (72, cTreePut)] cTDraw Try.f139 (body Try.f139) x := by
  rintro ⟨c, n, h0, h1⟩
  conv => whnf
  refine ⟨[.nlc 80 0 0 100], ?_⟩
  conv => whnf
  refine ⟨3, NodeX, NodeX.ds, fun _ => rfl, ?_⟩
  conv => whnf
  have hw : IntKind.i64.wrap (n + 1) = n + 1 := w64 (by omega) (by omega)
  refine useBelow (c := c) (n := IntKind.i64.wrap (n + 1)) rfl (by rw [hw]; omega) fun c v v1 v2 _ => ?_
  replace v2 : v < n + 1 := by rw [hw] at v2; exact v2 (by omega)
  clear hw
  obtain ⟨i, rfl⟩ : ∃ i : Nat, v = i := ⟨v.toNat, by omega⟩
  conv => whnf
  let S (i : Nat) : Sl := [(6, .lf (.int .i64 i)), (5, .pt 80 0 0), (4, .pt 64 0 0), (1000000, .pt 0 0 0), (0, .pt 0 0 0)]
  let H (c : CurX) (N : List NodeX) : Hp := [(3200, some (.row .ro 1 encB c.b)), (0, some (.arr true 3 [[.sl 3200 none, .lf (.int .i64 c.i), .lf (.int .i64 c.h)]])), (1600, some (.row .own 3 NodeX.ds N)),
    (80, some (.arr true 1 [[.sl 1600 none]])), (64, some (.arr true 1 [[.lf (.slice none 0 0)]]))]
  refine ⟨fun m s h => ∃ (c : CurX) (i : Nat) (N : List NodeX), i ≤ 1001 ∧ TreeP N ∧ m = i ∧ s = S i ∧ h = H c N, i, [(nm 13, 3200), (0, 0), (1600, 1600), (80, 80), (64, 64)], S i, H c [], ⟨rfl, ⟨rfl, rfl, rfl, rfl, rfl, trivial⟩, rfl, rfl, rfl, rfl, rfl, trivial⟩, ⟨c, i, [], by omega, treeP_nil, rfl, rfl, rfl⟩, ?_⟩
  rintro m _ _ ⟨c, i, N, g1, hT, rfl, rfl, rfl⟩
  have hsm := hT.small
  have hN : N.length ≤ 1048576 := by omega
  have hp : ∀ n ∈ N, n.ps.length ≤ 1048576 := fun n hn => by have := (hsm.2 n hn).1; omega
  conv => whnf
  refine br2 (fun h2 => ?_) (fun h2 => ?_)
  · have h2' : 1 ≤ m := by have := of_decide_eq_true h2; omega
    have hw1 : V.lf (.int .i64 (IntKind.i64.wrap ((m : Int) - 1))) = V.lf (.int .i64 ((m - 1 : Nat) : Int)) := by rw [w64 (by omega) (by omega)]; congr 2; omega
    conv => whnf
    refine useBelow (c := c) (n := 5) rfl (by decide) fun c v a1 a2 _ => ?_
    conv => whnf
    refine br2 (fun h3 => ?_) (fun h3 => ?_)
    · conv => whnf
      repeat ((first | refine rc_i rfl ?_ | refine rc_i (fun _ => rfl) ?_); conv => whnf)
      refine useDraw (c := c) rfl fun c k hk => ?_
      conv => whnf
      repeat ((first | refine rc_i rfl ?_ | refine rc_i (fun _ => rfl) ?_); conv => whnf)
      refine ⟨⟨⟨N, N.length, Nat.le_refl _, hN, hp⟩, k⟩, rfl, ?_⟩
      rintro _ _ ⟨rfl, N', ok, rfl, hr⟩
      have hT' := TDropR.tree hr hT
      conv => whnf
      repeat ((first | refine rc_i rfl ?_ | refine rc_i (fun _ => rfl) ?_); conv => whnf)
      exact ⟨m - 1, [(nm 24, 3200), (0, 0), (400, 1600), (80, 80), (64, 64)], S (m - 1), H c N', by omega, ⟨rfl, ⟨hw1, rfl, rfl, rfl, rfl, trivial⟩, rfl, rfl, rfl, rfl, rfl, trivial⟩, c, m - 1, N', by omega, hT', rfl, rfl, rfl⟩
    · conv => whnf
      repeat ((first | refine rc_i rfl ?_ | refine rc_i (fun _ => rfl) ?_); conv => whnf)
      refine useDraw (c := c) rfl fun c k hk => ?_
      conv => whnf
      repeat ((first | refine rc_i rfl ?_ | refine rc_i (fun _ => rfl) ?_); conv => whnf)
      refine useDraw (c := c) rfl fun c q hq => ?_
      conv => whnf
      repeat ((first | refine rc_i rfl ?_ | refine rc_i (fun _ => rfl) ?_); conv => whnf)
      refine ⟨⟨⟨N, N.length, Nat.le_refl _, hN, hp⟩, k, q⟩, rfl, ?_⟩
      rintro _ _ ⟨rfl, N', ok, rfl, hr⟩
      cases ok with
      | true =>
        have hT' := TPutR.tree hr hT rfl
        conv => whnf
        repeat ((first | refine rc_i rfl ?_ | refine rc_i (fun _ => rfl) ?_); conv => whnf)
        exact ⟨m - 1, [(nm 33, 3200), (0, 0), (544, 1600), (80, 80), (64, 64)], S (m - 1), H c N', by omega, ⟨rfl, ⟨hw1, rfl, rfl, rfl, rfl, trivial⟩, rfl, rfl, rfl, rfl, rfl, trivial⟩, c, m - 1, N', by omega, hT', rfl, rfl, rfl⟩
      | false =>
        conv => whnf
        repeat ((first | refine rc_i rfl ?_ | refine rc_i (fun _ => rfl) ?_); conv => whnf)
        exact ⟨m - 1, [(nm 33, 3200), (0, 0), (1600, 1600), (80, 80), (64, 64)], S (m - 1), H c N, by omega, ⟨rfl, ⟨hw1, rfl, rfl, rfl, rfl, trivial⟩, rfl, rfl, rfl, rfl, rfl, trivial⟩, c, m - 1, N, by omega, hT, rfl, rfl, rfl⟩
  · conv => whnf
    exact ⟨⟨c, N, rfl, rfl, hT⟩⟩
theorem l03Draw_ok : FnOk Try.prog 139 cTDraw := fnOk_of fun x => fnX_at tab_ok (SOk.cons gh_ok (SOk.cons l01Below_ok (SOk.cons l02Key_ok (SOk.cons l02Val_ok (SOk.cons sTreeDrop_ok (SOk.cons sTreePut_ok SOk.nil)))))) mixed (fn := Try.f139) (code := body Try.f139) ⟨Try.func139, rfl, by kernel_rfl, by kernel_rfl, by kernel_rfl, by kernel_rfl⟩ (ev_l03Draw x)
end Go.Vm
namespace Go.Vm
open Go.Proofs
set_option maxRecDepth 100000
set_option linter.unusedVariables false
set_option linter.unusedSimpArgs false

theorem ev_l02AnyKey : ∀ x, evFnX tab [(125, cBelow), (181, (cDraw false strE (strP 16)))] (cDraw false strE (strP 17)) Try.f144 (body Try.f144) x := by
  intro c
  conv => whnf
  refine useBelow (c := c) (n := 8) rfl (by decide) fun c k k1 k2 _ => ?_
  conv => whnf
  refine br2 (fun h => ?_) (fun _ => ?_)
  · conv => whnf
    refine useBelow (c := c) (n := 4) rfl (by decide) fun c v a1 a2 _ => ?_
    replace a2 : v < 4 := a2 (by decide)
    conv => whnf
    refine ⟨a1, a2, ?_⟩
    conv => whnf
    refine exStr 17 rfl (show v.toNat < 4 by omega) fun s hs => ?_
    conv => whnf
    exact ⟨⟨c, s, rfl, rfl, hs⟩⟩
  conv => whnf
  refine useDraw (c := c) rfl fun c s hs => ?_
  replace hs : s.size ≤ 16 := hs
  conv => whnf
  exact ⟨⟨c, s, rfl, rfl, (show s.size ≤ 17 by omega)⟩⟩
theorem l02AnyKey_ok : FnOk Try.prog 144 (cDraw false strE (strP 17)) := fnOk_of fun x => fnX_at tab_ok (SOk.cons l01Below_ok (SOk.cons l02Key_ok SOk.nil)) mixed (fn := Try.f144) (code := body Try.f144) ⟨Try.func144, rfl, by kernel_rfl, by kernel_rfl, by kernel_rfl, by kernel_rfl⟩ (ev_l02AnyKey x)
end Go.Vm
namespace Go.Vm
open Go.Proofs
set_option maxRecDepth 100000
set_option linter.unusedVariables false
set_option linter.unusedSimpArgs false

def cTAny : Con := { X := CurX, params := [(.mut, false)], res := [true], resOwn := false, ins := fun c => [[c.d]], post := fun _ outs r => ∃ (c : CurX) (N : List NodeX), outs = [[c.d]] ∧ r = [[.row 3 NodeX.ds N]] ∧ SmallT N }
theorem SmallT.set {N : List NodeX} (h : SmallT N) {i : Nat} {y : NodeX} (hy : nodeS y) : SmallT (N.set i y) := ⟨by rw [List.length_set]; exact h.len, fun n hn => by
  rcases List.mem_or_eq_of_mem_set hn with hn | rfl
  · exact h.nodes n hn
  · exact hy⟩
theorem ev_l03Any : ∀ x, evFnX tab [(1000008, cGh), (1000009, cGh), (1000011, cGh), (1000013, cGh), (1000014, cGh), (1000015, cGh), (1000017, cGh), (1000019, cGh), (139, cTDraw), (125, cBelow), (126, (cDraw false intE intP)), (144, (cDraw false strE (strP 17))), (181, (cDraw false strE (strP 16)))] cTAny Try.f123 (body Try.f123) x := by
  intro c
  conv => whnf
  refine ⟨⟨c, 40, by decide, by decide⟩, rfl, ?_⟩
  rintro _ _ ⟨c, N, rfl, rfl, hT⟩
  have hsm := hT.small
  have hS : SmallT N := ⟨by omega, fun n hn => by obtain ⟨a, b, c⟩ := hsm.2 n hn; exact ⟨by omega, by omega, by omega⟩⟩
  conv => whnf
  refine useBelow (c := c) (n := 16) rfl (by decide) fun c k k1 k2 _ => ?_
  conv => whnf
  intro _
  conv => whnf
  refine br2 (fun h1 => ?_) (fun h1 => ?_)
  · conv => whnf
    exact ⟨⟨c, N, rfl, rfl, hS⟩⟩
  have h1' : 1 ≤ N.length := by
    replace h1 : ((N.length : Int) == 0) = false := h1
    simp at h1
    cases N with
    | nil => exact absurd rfl h1
    | cons => simp
  conv => whnf
  refine useBelow (c := c) (n := (N.length : Int)) rfl (by omega) fun c v v1 v2 _ => ?_
  replace v2 : v < N.length := v2 (by omega)
  obtain ⟨i, rfl⟩ : ∃ i : Nat, v = i := ⟨v.toNat, by omega⟩
  obtain ⟨y, hy⟩ := getL (l := N) (j := i) (by omega)
  have hyS := hsm.2 y (List.mem_of_getElem? hy)
  obtain ⟨ps, keys, kids⟩ := y
  obtain ⟨y1, y2, y3⟩ : ps.length ≤ 4 ∧ keys.length ≤ 4 ∧ kids.length ≤ 4 := hyS
  by_cases e0 : k = 0
  · subst e0
    conv => whnf
    refine ⟨[.foc 128 i 1000], ?_⟩
    conv => whnf
    refine ex2 _ (by rw [nth_eq]; exact hy) ?_
    conv => whnf
    refine ⟨Int.natCast_nonneg _, ltI hy, ?_⟩
    conv => whnf
    refine ⟨Int.toNat_natCast i, ?_⟩
    conv => whnf
    repeat (refine rc_i (by (conv => whnf); first | rfl | exact fun _ => rfl | exact ⟨Int.natCast_nonneg _, ltI hy, rfl⟩ | exact ⟨Int.toNat_natCast i, rfl⟩) ?_; conv => whnf)
    refine ⟨[⟨#[113]⟩], rfl, (by show keys.length + 1 ≤ 4294967296; omega), ?_⟩
    conv => whnf
    repeat (refine rc_i (by (conv => whnf); first | rfl | exact fun _ => rfl | exact ⟨Int.natCast_nonneg _, ltI hy, rfl⟩ | exact ⟨Int.toNat_natCast i, rfl⟩) ?_; conv => whnf)
    refine ⟨Int.natCast_nonneg _, ltI hy, ?_⟩
    conv => whnf
    repeat (refine rc_i (by (conv => whnf); first | rfl | exact fun _ => rfl | exact ⟨Int.natCast_nonneg _, ltI hy, rfl⟩ | exact ⟨Int.toNat_natCast i, rfl⟩) ?_; conv => whnf)
    refine ⟨Int.toNat_natCast i, ?_⟩
    conv => whnf
    refine ⟨[.unf 128], ?_⟩
    conv => whnf
    refine ⟨⟨ps, keys ++ [⟨#[113]⟩], kids⟩, rfl, ?_⟩
    conv => whnf
    refine ⟨[], ?_⟩
    conv => whnf
    refine ⟨[], ?_⟩
    conv => whnf
    refine ⟨[], ?_⟩
    conv => whnf
    refine ⟨[], ?_⟩
    conv => whnf
    refine ⟨[], ?_⟩
    conv => whnf
    exact ⟨⟨c, N.set i ⟨ps, keys ++ [⟨#[113]⟩], kids⟩, rfl, rfl, hS.set ⟨by show ps.length ≤ 5; omega, by show (keys ++ [_]).length ≤ 5; simp; omega, by show kids.length ≤ 5; omega⟩⟩⟩
  by_cases e1 : k = 1
  · subst e1
    conv => whnf
    refine ⟨[.foc 128 i 1000], ?_⟩
    conv => whnf
    refine ex2 _ (by rw [nth_eq]; exact hy) ?_
    conv => whnf
    refine ⟨Int.natCast_nonneg _, ltI hy, ?_⟩
    conv => whnf
    refine ⟨Int.toNat_natCast i, ?_⟩
    conv => whnf
    intro _
    conv => whnf
    refine br2 (fun h2 => ?_) (fun h2 => ?_)
    · have hz : 0 < ps.length := by
        have h3 : ((ps.length : Nat) : Int) > 0 := of_decide_eq_true h2
        omega
      obtain ⟨z, zs, rfl⟩ : ∃ z zs, ps = z :: zs := by cases ps with | nil => simp at hz | cons z zs => exact ⟨z, zs, rfl⟩
      conv => whnf
      refine ⟨Int.natCast_nonneg _, ltI hy, ?_⟩
      conv => whnf
      repeat (refine rc_i (by (conv => whnf); first | rfl | exact fun _ => rfl | exact ⟨Int.natCast_nonneg _, ltI hy, rfl⟩ | exact ⟨Int.toNat_natCast i, rfl⟩) ?_; conv => whnf)
      refine ⟨Int.toNat_natCast i, ?_⟩
      conv => whnf
      repeat (refine rc_i (by (conv => whnf); first | rfl | exact fun _ => rfl | exact ⟨Int.natCast_nonneg _, ltI hy, rfl⟩ | exact ⟨Int.toNat_natCast i, rfl⟩) ?_; conv => whnf)
      refine useDraw (c := c) rfl fun c s hs => ?_
      conv => whnf
      repeat (refine rc_i (by (conv => whnf); first | rfl | exact fun _ => rfl | exact ⟨Int.natCast_nonneg _, ltI hy, rfl⟩ | exact ⟨Int.toNat_natCast i, rfl⟩) ?_; conv => whnf)
      refine ⟨Int.le_refl _, (show (0 : Int) < ((z :: zs).length : Nat) by simp), ?_⟩
      conv => whnf
      repeat (refine rc_i (by (conv => whnf); first | rfl | exact fun _ => rfl | exact ⟨Int.natCast_nonneg _, ltI hy, rfl⟩ | exact ⟨Int.toNat_natCast i, rfl⟩) ?_; conv => whnf)
      refine ⟨⟨s, z.hi⟩, rfl, ?_⟩
      conv => whnf
      refine ⟨[.unf 128], ?_⟩
      conv => whnf
      refine ⟨⟨⟨s, z.hi⟩ :: zs, keys, kids⟩, rfl, ?_⟩
      conv => whnf
      refine ⟨[], ?_⟩
      conv => whnf
      refine ⟨[], ?_⟩
      conv => whnf
      refine ⟨[], ?_⟩
      conv => whnf
      refine ⟨[], ?_⟩
      conv => whnf
      exact ⟨⟨c, N.set i ⟨⟨s, z.hi⟩ :: zs, keys, kids⟩, rfl, rfl, hS.set ⟨by show (_ :: zs).length ≤ 5; simp at y1 ⊢; omega, by show keys.length ≤ 5; omega, by show kids.length ≤ 5; omega⟩⟩⟩
    · conv => whnf
      refine ⟨[.unf 128], ?_⟩
      conv => whnf
      refine ⟨⟨ps, keys, kids⟩, rfl, ?_⟩
      conv => whnf
      refine ⟨[], ?_⟩
      conv => whnf
      refine ⟨[], ?_⟩
      conv => whnf
      refine ⟨[], ?_⟩
      conv => whnf
      refine ⟨[], ?_⟩
      conv => whnf
      exact ⟨⟨c, N.set i ⟨ps, keys, kids⟩, rfl, rfl, hS.set ⟨by show ps.length ≤ 5; omega, by show keys.length ≤ 5; omega, by show kids.length ≤ 5; omega⟩⟩⟩
  by_cases e2 : k = 2
  · subst e2
    conv => whnf
    refine ⟨[], ?_⟩
    conv => whnf
    refine ⟨[.foc 128 i 1000], ?_⟩
    conv => whnf
    refine ex2 _ (by rw [nth_eq]; exact hy) ?_
    conv => whnf
    refine ⟨Int.natCast_nonneg _, ltI hy, ?_⟩
    conv => whnf
    refine ⟨Int.toNat_natCast i, ?_⟩
    conv => whnf
    intro _
    conv => whnf
    refine br2 (fun h2 => ?_) (fun h2 => ?_)
    · have hz : 0 < kids.length := by
        have h3 : ((kids.length : Nat) : Int) > 0 := of_decide_eq_true h2
        omega
      obtain ⟨z, zs, rfl⟩ : ∃ z zs, kids = z :: zs := by cases kids with | nil => simp at hz | cons z zs => exact ⟨z, zs, rfl⟩
      conv => whnf
      refine ⟨Int.natCast_nonneg _, ltI hy, ?_⟩
      conv => whnf
      repeat (refine rc_i (by (conv => whnf); first | rfl | exact fun _ => rfl | exact ⟨Int.natCast_nonneg _, ltI hy, rfl⟩ | exact ⟨Int.toNat_natCast i, rfl⟩) ?_; conv => whnf)
      refine ⟨Int.toNat_natCast i, ?_⟩
      conv => whnf
      repeat (refine rc_i (by (conv => whnf); first | rfl | exact fun _ => rfl | exact ⟨Int.natCast_nonneg _, ltI hy, rfl⟩ | exact ⟨Int.toNat_natCast i, rfl⟩) ?_; conv => whnf)
      refine useDraw (c := c) rfl fun c s hs => ?_
      conv => whnf
      repeat (refine rc_i (by (conv => whnf); first | rfl | exact fun _ => rfl | exact ⟨Int.natCast_nonneg _, ltI hy, rfl⟩ | exact ⟨Int.toNat_natCast i, rfl⟩) ?_; conv => whnf)
      refine ⟨Int.le_refl _, (show (0 : Int) < ((z :: zs).length : Nat) by simp), ?_⟩
      conv => whnf
      repeat (refine rc_i (by (conv => whnf); first | rfl | exact fun _ => rfl | exact ⟨Int.natCast_nonneg _, ltI hy, rfl⟩ | exact ⟨Int.toNat_natCast i, rfl⟩) ?_; conv => whnf)
      refine ⟨s, rfl, ?_⟩
      conv => whnf
      refine ⟨[.unf 128], ?_⟩
      conv => whnf
      refine ⟨⟨ps, keys, s :: zs⟩, rfl, ?_⟩
      conv => whnf
      refine ⟨[], ?_⟩
      conv => whnf
      refine ⟨[], ?_⟩
      conv => whnf
      refine ⟨[], ?_⟩
      conv => whnf
      exact ⟨⟨c, N.set i ⟨ps, keys, s :: zs⟩, rfl, rfl, hS.set ⟨by show ps.length ≤ 5; omega, by show keys.length ≤ 5; omega, by show (_ :: zs).length ≤ 5; simp at y3 ⊢; omega⟩⟩⟩
    · conv => whnf
      refine ⟨[.unf 128], ?_⟩
      conv => whnf
      refine ⟨⟨ps, keys, kids⟩, rfl, ?_⟩
      conv => whnf
      refine ⟨[], ?_⟩
      conv => whnf
      refine ⟨[], ?_⟩
      conv => whnf
      refine ⟨[], ?_⟩
      conv => whnf
      exact ⟨⟨c, N.set i ⟨ps, keys, kids⟩, rfl, rfl, hS.set ⟨by show ps.length ≤ 5; omega, by show keys.length ≤ 5; omega, by show kids.length ≤ 5; omega⟩⟩⟩
  by_cases e3 : k = 3
  · subst e3
    conv => whnf
    refine ⟨[], ?_⟩
    conv => whnf
    refine ⟨[], ?_⟩
    conv => whnf
    refine ⟨[], ?_⟩
    conv => whnf
    refine ⟨[.mixr 128], ?_⟩
    conv => whnf
    refine ⟨Int.natCast_nonneg _, ltI hy, ?_⟩
    conv => whnf
    refine ex2 _ (nthI hy) ?_
    conv => whnf
    repeat (refine rc_i (by (conv => whnf); first | rfl | exact fun _ => rfl | exact ⟨Int.natCast_nonneg _, ltI hy, rfl⟩ | exact ⟨Int.toNat_natCast i, rfl⟩) ?_; conv => whnf)
    refine ⟨[⟨ps, keys, kids⟩], rfl, (by show N.length + 1 ≤ 4294967296; omega), ?_⟩
    conv => whnf
    repeat (refine rc_i (by (conv => whnf); first | rfl | exact fun _ => rfl | exact ⟨Int.natCast_nonneg _, ltI hy, rfl⟩ | exact ⟨Int.toNat_natCast i, rfl⟩) ?_; conv => whnf)
    refine ⟨[], ?_⟩
    conv => whnf
    refine ⟨[], ?_⟩
    conv => whnf
    refine ⟨[], ?_⟩
    conv => whnf
    refine ⟨⟨c, N ++ [⟨ps, keys, kids⟩], rfl, rfl, by rw [List.length_append]; show N.length + 1 ≤ 201; omega, fun n hn => ?_⟩⟩
    rcases List.mem_append.1 hn with hn | hn
    · exact hS.nodes n hn
    · obtain rfl : n = ⟨ps, keys, kids⟩ := by simpa using hn
      exact ⟨by show ps.length ≤ 5; omega, by show keys.length ≤ 5; omega, by show kids.length ≤ 5; omega⟩
  by_cases e4 : k = 4
  · subst e4
    conv => whnf
    refine ⟨[], ?_⟩
    conv => whnf
    refine ⟨[], ?_⟩
    conv => whnf
    refine ⟨[], ?_⟩
    conv => whnf
    refine ⟨[.foc 128 i 1000], ?_⟩
    conv => whnf
    refine ex2 _ (by rw [nth_eq]; exact hy) ?_
    conv => whnf
    refine ⟨Int.natCast_nonneg _, ltI hy, ?_⟩
    conv => whnf
    refine ⟨Int.toNat_natCast i, ?_⟩
    conv => whnf
    intro _
    conv => whnf
    refine br2 (fun h2 => ?_) (fun h2 => ?_)
    · have hz : 0 < keys.length := by
        have h3 : ((keys.length : Nat) : Int) > 0 := of_decide_eq_true h2
        omega
      obtain ⟨z, zs, rfl⟩ : ∃ z zs, keys = z :: zs := by cases keys with | nil => simp at hz | cons z zs => exact ⟨z, zs, rfl⟩
      conv => whnf
      refine ⟨Int.natCast_nonneg _, ltI hy, ?_⟩
      conv => whnf
      repeat (refine rc_i (by (conv => whnf); first | rfl | exact fun _ => rfl | exact ⟨Int.natCast_nonneg _, ltI hy, rfl⟩ | exact ⟨Int.toNat_natCast i, rfl⟩) ?_; conv => whnf)
      refine ⟨Int.toNat_natCast i, ?_⟩
      conv => whnf
      repeat (refine rc_i (by (conv => whnf); first | rfl | exact fun _ => rfl | exact ⟨Int.natCast_nonneg _, ltI hy, rfl⟩ | exact ⟨Int.toNat_natCast i, rfl⟩) ?_; conv => whnf)
      refine useDraw (c := c) rfl fun c s hs => ?_
      conv => whnf
      repeat (refine rc_i (by (conv => whnf); first | rfl | exact fun _ => rfl | exact ⟨Int.natCast_nonneg _, ltI hy, rfl⟩ | exact ⟨Int.toNat_natCast i, rfl⟩) ?_; conv => whnf)
      refine ⟨Int.le_refl _, (show (0 : Int) < ((z :: zs).length : Nat) by simp), ?_⟩
      conv => whnf
      repeat (refine rc_i (by (conv => whnf); first | rfl | exact fun _ => rfl | exact ⟨Int.natCast_nonneg _, ltI hy, rfl⟩ | exact ⟨Int.toNat_natCast i, rfl⟩) ?_; conv => whnf)
      refine ⟨s, rfl, ?_⟩
      conv => whnf
      refine ⟨[.unf 128], ?_⟩
      conv => whnf
      refine ⟨⟨ps, s :: zs, kids⟩, rfl, ?_⟩
      conv => whnf
      refine ⟨[], ?_⟩
      conv => whnf
      exact ⟨⟨c, N.set i ⟨ps, s :: zs, kids⟩, rfl, rfl, hS.set ⟨by show ps.length ≤ 5; omega, by show (_ :: zs).length ≤ 5; simp at y2 ⊢; omega, by show kids.length ≤ 5; omega⟩⟩⟩
    · conv => whnf
      refine ⟨[.unf 128], ?_⟩
      conv => whnf
      refine ⟨⟨ps, keys, kids⟩, rfl, ?_⟩
      conv => whnf
      refine ⟨[], ?_⟩
      conv => whnf
      exact ⟨⟨c, N.set i ⟨ps, keys, kids⟩, rfl, rfl, hS.set ⟨by show ps.length ≤ 5; omega, by show keys.length ≤ 5; omega, by show kids.length ≤ 5; omega⟩⟩⟩
  by_cases e5 : k = 5
  · subst e5
    conv => whnf
    refine ⟨[], ?_⟩
    conv => whnf
    refine ⟨[], ?_⟩
    conv => whnf
    refine ⟨[], ?_⟩
    conv => whnf
    refine ⟨[], ?_⟩
    conv => whnf
    refine ⟨[.foc 128 i 1000], ?_⟩
    conv => whnf
    refine ex2 _ (by rw [nth_eq]; exact hy) ?_
    conv => whnf
    refine ⟨Int.natCast_nonneg _, ltI hy, ?_⟩
    conv => whnf
    refine ⟨Int.toNat_natCast i, ?_⟩
    conv => whnf
    intro _
    conv => whnf
    refine br2 (fun h2 => ?_) (fun h2 => ?_)
    · have hz : 0 < ps.length := by
        have h3 : ((ps.length : Nat) : Int) > 0 := of_decide_eq_true h2
        omega
      conv => whnf
      refine ⟨Int.natCast_nonneg _, ltI hy, ?_⟩
      conv => whnf
      repeat (refine rc_i (by (conv => whnf); first | rfl | exact fun _ => rfl | exact ⟨Int.natCast_nonneg _, ltI hy, rfl⟩ | exact ⟨Int.toNat_natCast i, rfl⟩) ?_; conv => whnf)
      refine ⟨Int.toNat_natCast i, ?_⟩
      conv => whnf
      repeat (refine rc_i (by (conv => whnf); first | rfl | exact fun _ => rfl | exact ⟨Int.natCast_nonneg _, ltI hy, rfl⟩ | exact ⟨Int.toNat_natCast i, rfl⟩) ?_; conv => whnf)
      refine ⟨by decide, (show (1 : Int) ≤ (ps.length : Int) by omega), Int.le_refl _, ?_⟩
      conv => whnf
      repeat (refine rc_i (by (conv => whnf); first | rfl | exact fun _ => rfl | exact ⟨Int.natCast_nonneg _, ltI hy, rfl⟩ | exact ⟨Int.toNat_natCast i, rfl⟩) ?_; conv => whnf)
      refine ⟨Int.natCast_nonneg _, ltI hy, ?_⟩
      conv => whnf
      repeat (refine rc_i (by (conv => whnf); first | rfl | exact fun _ => rfl | exact ⟨Int.natCast_nonneg _, ltI hy, rfl⟩ | exact ⟨Int.toNat_natCast i, rfl⟩) ?_; conv => whnf)
      refine ⟨Int.toNat_natCast i, ?_⟩
      conv => whnf
      refine ⟨[.unf 128], ?_⟩
      conv => whnf
      refine ⟨RngX, RngX.ds, _, fun _ => rfl, rfl, ?_⟩
      conv => whnf
      refine ⟨⟨(ps.drop 1).take ((ps.length : Int) - 1).toNat, keys, kids⟩, rfl, ?_⟩
      conv => whnf
      exact ⟨⟨c, N.set i ⟨(ps.drop 1).take ((ps.length : Int) - 1).toNat, keys, kids⟩, rfl, rfl, hS.set ⟨by show ((ps.drop 1).take _).length ≤ 5; simp; omega, by show keys.length ≤ 5; omega, by show kids.length ≤ 5; omega⟩⟩⟩
    · conv => whnf
      refine ⟨[.unf 128], ?_⟩
      conv => whnf
      refine ⟨⟨ps, keys, kids⟩, rfl, ?_⟩
      conv => whnf
      exact ⟨⟨c, N.set i ⟨ps, keys, kids⟩, rfl, rfl, hS.set ⟨by show ps.length ≤ 5; omega, by show keys.length ≤ 5; omega, by show kids.length ≤ 5; omega⟩⟩⟩
  conv => whnf
  refine br2 (fun q => ?_) (fun q => ?_)
  · exact absurd (eq_of_beq q) e0
  conv => whnf
  refine ⟨[], ?_⟩
  conv => whnf
  refine br2 (fun q => ?_) (fun q => ?_)
  · exact absurd (eq_of_beq q) e1
  conv => whnf
  refine ⟨[], ?_⟩
  conv => whnf
  refine br2 (fun q => ?_) (fun q => ?_)
  · exact absurd (eq_of_beq q) e2
  conv => whnf
  refine ⟨[], ?_⟩
  conv => whnf
  refine br2 (fun q => ?_) (fun q => ?_)
  · exact absurd (eq_of_beq q) e3
  conv => whnf
  refine ⟨[], ?_⟩
  conv => whnf
  refine br2 (fun q => ?_) (fun q => ?_)
  · exact absurd (eq_of_beq q) e4
  conv => whnf
  refine ⟨[], ?_⟩
  conv => whnf
  refine br2 (fun q => ?_) (fun q => ?_)
  · exact absurd (eq_of_beq q) e5
  conv => whnf
  refine ⟨[], ?_⟩
  conv => whnf
  exact ⟨⟨c, N, rfl, rfl, hS⟩⟩
theorem l03Any_ok : FnOk Try.prog 123 cTAny := fnOk_of fun x => fnX_at tab_ok (SOk.cons gh_ok (SOk.cons gh_ok (SOk.cons gh_ok (SOk.cons gh_ok (SOk.cons gh_ok (SOk.cons gh_ok (SOk.cons gh_ok (SOk.cons gh_ok (SOk.cons l03Draw_ok (SOk.cons l01Below_ok (SOk.cons l01Raw_ok (SOk.cons l02AnyKey_ok (SOk.cons l02Key_ok SOk.nil))))))))))))) mixed (fn := Try.f123) (code := body Try.f123) ⟨Try.func123, rfl, by kernel_rfl, by kernel_rfl, by kernel_rfl, by kernel_rfl⟩ (ev_l03Any x)
end Go.Vm
namespace Go.Vm
open Go.Proofs
set_option maxRecDepth 100000
set_option linter.unusedVariables false
set_option linter.unusedSimpArgs false

/-- The tree of pairs that are put in one by one. -/
def ofO (l : List RngX) : Option Tw := l.foldl (fun o p => some (putO o p)) none
theorem ofO_snoc (l : List RngX) (p : RngX) : ofO (l ++ [p]) = some (putO (ofO l) p) := by simp [ofO]
theorem pairsOk_take {l : List RngX} (h : PairsOkP l) (i : Nat) : PairsOkP (l.take i) :=
  ⟨Nat.le_trans (take_len_le l i) h.len, fun p hp => h.ok p (List.mem_of_mem_take hp), h.srt.sublist (List.take_sublist i l)⟩
theorem ofO_step {l : List RngX} (h : PairsOkP l) {i : Nat} {p : RngX} (hp : l[i]? = some p) (ho : Vo (ofO (l.take i)) ∧ allO (ofO (l.take i)) = l.take i) :
    ofO (l.take (i + 1)) = some (putO (ofO (l.take i)) p) ∧ Vo (ofO (l.take (i + 1))) ∧ allO (ofO (l.take (i + 1))) = l.take (i + 1) ∧ insL p (allO (ofO (l.take i))) = l.take (i + 1) ∧ kvOkB p = true := by
  obtain ⟨h1, h2⟩ := ho
  have e : l.take (i + 1) = l.take i ++ [p] := by rw [List.take_add_one, hp]; rfl
  have hk := h.ok p (List.mem_of_getElem? hp)
  have hs := (pairsOk_take h (i + 1)).srt
  rw [e, Srt.app] at hs
  have hi : insL p (allO (ofO (l.take i))) = l.take (i + 1) := by
    rw [h2, e]; exact insL_end fun a ha => hs.2.2 a ha p (by simp)
  have hl : (insL p (allO (ofO (l.take i)))).length ≤ 200 := by rw [hi]; exact (pairsOk_take h (i + 1)).len
  obtain ⟨a, b⟩ := h1.put hk hl
  have e1 : ofO (l.take (i + 1)) = some (putO (ofO (l.take i)) p) := by rw [e, ofO_snoc]
  refine ⟨e1, ?_, ?_, hi, hk⟩
  · rw [e1]; exact a
  · rw [e1]; show (putO _ p).all = _; rw [b, hi]
theorem ofO_take {l : List RngX} (h : PairsOkP l) : ∀ i, i ≤ l.length → Vo (ofO (l.take i)) ∧ allO (ofO (l.take i)) = l.take i
  | 0, _ => ⟨⟨trivial, ⟨by simp [ofO, allO], fun p hp => by simp [ofO, allO] at hp, List.Pairwise.nil⟩⟩, by simp [ofO, allO]⟩
  | i + 1, hi => by
    obtain ⟨p, hp⟩ := getL (l := l) (j := i) (by omega)
    obtain ⟨_, a, b, _⟩ := ofO_step h hp (ofO_take h i (by omega))
    exact ⟨a, b⟩
theorem ofO_all {l : List RngX} (h : PairsOkP l) : Vo (ofO l) ∧ allO (ofO l) = l := by
  have := ofO_take h l.length (Nat.le_refl _)
  rwa [List.take_length] at this
structure TOfR (l : List RngX) (N : List NodeX) (ok : Bool) : Prop where
  yes : PairsOkP l → ok = true ∧ N = layO (ofO l)
  no : ¬ PairsOkP l → ok = false ∧ N = []
theorem TOfR.same {l : List RngX} {N N' : List NodeX} {ok ok' : Bool} (h : TOfR l N ok) (h' : TOfR l N' ok') : N = N' ∧ ok = ok' := by
  by_cases hp : PairsOkP l
  · obtain ⟨rfl, rfl⟩ := h.yes hp
    obtain ⟨rfl, rfl⟩ := h'.yes hp
    exact ⟨rfl, rfl⟩
  · obtain ⟨rfl, rfl⟩ := h.no hp
    obtain ⟨rfl, rfl⟩ := h'.no hp
    exact ⟨rfl, rfl⟩
theorem TOfR.tree {l : List RngX} {N : List NodeX} {ok : Bool} (h : TOfR l N ok) : TreeP N := by
  by_cases hp : PairsOkP l
  · obtain ⟨_, rfl⟩ := h.yes hp
    exact ⟨_, (ofO_all hp).1, rfl⟩
  · obtain ⟨_, rfl⟩ := h.no hp
    exact treeP_nil
def cTreeOf : Con := relC (List RngX) [(.rd, false)] [true, false] (fun l => [[.row 2 RngX.ds l]]) (fun l r => ∃ N ok, r = [[.row 3 NodeX.ds N], [.lf (.bool ok)]] ∧ TOfR l N ok)
theorem ev_iTreeOf : ∀ x, evFnX tab [(140, cPairsOk), (141, cPutA), (133, cTreeOfI)] cTreeOf Try.f59 (body Try.f59) x := by
  intro (l : List RngX)
  conv => whnf
  refine ⟨l, rfl, ?_⟩
  rintro _ _ ⟨rfl, b, rfl, e⟩
  conv => whnf
  replace e : b = true ↔ PairsOkP l := e
  cases b with
  | false =>
    have h1' : ¬ PairsOkP l := fun h => by have := e.2 h; cases this
    conv => whnf
    refine ⟨3, NodeX, NodeX.ds, fun _ => rfl, ?_⟩
    conv => whnf
    exact ⟨⟨rfl, [], false, rfl, fun h => absurd h h1', fun _ => ⟨rfl, rfl⟩⟩⟩
  | true =>
  have h1 : PairsOkP l := e.1 rfl
  have hl := h1.len
  conv => whnf
  intro _
  conv => whnf
  let S0 : Nat → V → Sl := fun i v => [(13, .lf (.int .i64 i)), (12, .lf (.int .i64 l.length)), (11, .sl 0 none), (4, v), (2, .pt 32 0 0)]
  let H0 : Hp := [(0, some (.row .lent 2 RngX.ds l)), (32, some (.arr true 1 [[.lf (.slice none 0 0)]]))]
  let H1 : Nat → List RngX → List Tw → Hp := fun f u j => (64, some (.arr true 2 [[.sl 65 none, .sl 66 none]])) :: (65, some (.row .own 2 RngX.ds u)) :: (66, some (.row .own 1 (twE f) j)) :: H0
  refine ⟨fun m s h => ∃ i : Nat, i ≤ l.length ∧ m = l.length - i ∧ (ofO (l.take i) = none ∧ s = S0 i (.lf (.pointer none)) ∧ h = H0 ∨ ∃ f u j d, ofO (l.take i) = some (.mk u j) ∧ Shp true d (.mk u j) ∧ d ≤ f + 1 ∧ s = S0 i (.pt 64 0 0) ∧ h = H1 f u j), l.length, [(0, 0), (32, 32)], S0 0 (.lf (.pointer none)), H0, ⟨rfl, ⟨rfl, rfl, rfl, rfl, rfl, trivial⟩, rfl, rfl, trivial⟩, ⟨0, by omega, by omega, .inl ⟨rfl, rfl, rfl⟩⟩, ?_⟩
  rintro m _ _ ⟨i, g1, rfl, ⟨g2, rfl, rfl⟩ | ⟨f, u, j, d, g2, hd, hdf, rfl, rfl⟩⟩
  all_goals
    have vo := ofO_take h1 i g1
    rw [g2] at vo
    conv => whnf
    refine br2 (fun h5 => ?_) (fun h5 => ?_)
    · have hi : i < l.length := by have := of_decide_eq_true h5; omega
      obtain ⟨y, hy⟩ := getL hi
      have st := (ofO_step h1 hy (ofO_take h1 i g1)).1
      rw [g2] at st
      conv => whnf
      refine ⟨Int.natCast_nonneg _, ltI hy, ?_⟩
      conv => whnf
      refine ex2 _ (nthI hy) ?_
      conv => whnf
      first | refine ⟨⟨0, none, y, fun x e => by cases e⟩, rfl, ?_⟩ | refine ⟨⟨f + 1, some (.mk u j), y, fun x e => by cases e; exact ⟨d, hd, hdf, vo.1.ok.srt⟩⟩, rfl, ?_⟩
      rintro _ _ ⟨rfl, g, ⟨u', j'⟩, rfl, hx, hg, d', hd', hdg'⟩
      conv => whnf
      refine ⟨l.length - (i + 1), [(0, 0), (32, 32), (304, 64), (305, 65), (306, 66)], S0 (i + 1) (.pt 64 0 0), H1 g u' j', by omega, ⟨rfl, ⟨incI hi (by omega), rfl, rfl, rfl, rfl, trivial⟩, rfl, rfl, rfl, rfl, rfl, trivial⟩, i + 1, hi, rfl, .inr ⟨g, u', j', d', ?_, hd', hdg', rfl, rfl⟩⟩
      rw [st, hx]
    · have hi : i = l.length := by have := of_decide_eq_false h5; omega
      subst hi
      rw [List.take_length] at g2 vo
      have hlen : ∀ d u j, ofO l = some (.mk u j) → Shp true d (.mk u j) → (Tw.mk u j).size ≤ 4194304 := fun d u j e hd => shp_lay hd (by
        have := (ofO_all h1).2; rw [e] at this
        have h9 : (Tw.mk u j).all = l := this
        rw [h9]; omega)
      conv => whnf
      first | refine ⟨⟨0, none, fun x e => by cases e⟩, rfl, ?_⟩ | refine ⟨⟨f + 1, some (.mk u j), fun x e => by cases e; exact ⟨true, d, hd, hdf, hlen d u j g2 hd⟩⟩, rfl, ?_⟩
      rintro _ _ ⟨rfl, rfl⟩
      conv => whnf
      refine ⟨⟨rfl, _, true, rfl, fun _ => ⟨rfl, ?_⟩, fun h => absurd h1 h⟩⟩
      rw [g2]; rfl
theorem iTreeOf_ok : FnOk Try.prog 59 cTreeOf := fnOk_of fun x => fnX_at tab_ok (SOk.cons iPairsOk_ok (SOk.cons putAt_ok (SOk.cons treeOf_ok SOk.nil))) mixed (fn := Try.f59) (code := body Try.f59) ⟨Try.func59, rfl, by kernel_rfl, by kernel_rfl, by kernel_rfl, by kernel_rfl⟩ (ev_iTreeOf x)
theorem ev_sTreeOf : ∀ x, evFnX tab [(1000004, cGh), (60, cPairsOk), (72, cTreePut)] cTreeOf Try.f67 (body Try.f67) x := by
  intro (l : List RngX)
  conv => whnf
  refine ⟨l, rfl, ?_⟩
  rintro _ _ ⟨rfl, b, rfl, e⟩
  conv => whnf
  replace e : b = true ↔ PairsOkP l := e
  cases b with
  | false =>
    have h1' : ¬ PairsOkP l := fun h => by have := e.2 h; cases this
    conv => whnf
    refine ⟨3, NodeX, NodeX.ds, fun _ => rfl, ?_⟩
    conv => whnf
    exact ⟨⟨rfl, [], false, rfl, fun h => absurd h h1', fun _ => ⟨rfl, rfl⟩⟩⟩
  | true =>
  have h1 : PairsOkP l := e.1 rfl
  have hl := h1.len
  conv => whnf
  refine ⟨[.nlc 64 0 0 100], ?_⟩
  conv => whnf
  refine ⟨3, NodeX, NodeX.ds, fun _ => rfl, ?_⟩
  conv => whnf
  intro _
  conv => whnf
  let S0 : Nat → Sl := fun i => [(14, .lf (.int .i64 i)), (13, .lf (.int .i64 l.length)), (12, .sl 0 none), (4, .pt 64 0 0), (2, .pt 32 0 0)]
  let H0 : Nat → Hp := fun i => [(0, some (.row .lent 2 RngX.ds l)), (32, some (.arr true 1 [[.lf (.slice none 0 0)]])), (64, some (.arr true 1 [[.sl 1600 none]])), (1600, some (.row .own 3 NodeX.ds (layO (ofO (l.take i)))))]
  refine ⟨fun m s h => ∃ i : Nat, i ≤ l.length ∧ m = l.length - i ∧ s = S0 i ∧ h = H0 i, l.length, [(0, 0), (32, 32), (64, 64), (1600, 1600)], S0 0, H0 0, ⟨rfl, ⟨rfl, rfl, rfl, rfl, rfl, trivial⟩, rfl, rfl, rfl, rfl, trivial⟩, ⟨0, by omega, by omega, rfl, rfl⟩, ?_⟩
  rintro m _ _ ⟨i, g1, rfl, rfl, rfl⟩
  have vo := ofO_take h1 i g1
  conv => whnf
  refine br2 (fun h5 => ?_) (fun h5 => ?_)
  · have hi : i < l.length := by have := of_decide_eq_true h5; omega
    obtain ⟨y, hy⟩ := getL hi
    obtain ⟨st, -, -, si, sk⟩ := ofO_step h1 hy vo
    have sm := TreeP.small ⟨_, vo.1, rfl⟩
    conv => whnf
    refine ⟨Int.natCast_nonneg _, ltI hy, ?_⟩
    conv => whnf
    refine ex2 _ (nthI hy) ?_
    conv => whnf
    refine ⟨⟨⟨layO (ofO (l.take i)), _, Nat.le_refl _, by omega, fun n hn => by have := (sm.2 n hn).1; omega⟩, y.lo, y.hi⟩, rfl, ?_⟩
    rintro _ _ ⟨rfl, N', ok, rfl, hr⟩
    obtain ⟨-, hN'⟩ := hr.yes _ vo.1 rfl sk (by rw [show (⟨y.lo, y.hi⟩ : RngX) = y from rfl, si]; exact (pairsOk_take h1 _).len)
    replace hN' : N' = layO (ofO (l.take (i + 1))) := by rw [st]; exact hN'
    subst hN'
    conv => whnf
    exact ⟨l.length - (i + 1), [(0, 0), (32, 32), (64, 64), (384, 1600)], S0 (i + 1), H0 (i + 1), by omega, ⟨rfl, ⟨incI hi (by omega), rfl, rfl, rfl, rfl, trivial⟩, rfl, rfl, rfl, rfl, trivial⟩, i + 1, hi, rfl, rfl, rfl⟩
  · have hi : i = l.length := by have := of_decide_eq_false h5; omega
    subst hi
    conv => whnf
    refine ⟨⟨rfl, _, true, rfl, fun _ => ⟨rfl, ?_⟩, fun h => absurd h1 h⟩⟩
    show layO (ofO (l.take l.length)) = _
    rw [List.take_length]
theorem sTreeOf_ok : FnOk Try.prog 67 cTreeOf := fnOk_of fun x => fnX_at tab_ok (SOk.cons gh_ok (SOk.cons sPairsOk_ok (SOk.cons sTreePut_ok SOk.nil))) mixed (fn := Try.f67) (code := body Try.f67) ⟨Try.func67, rfl, by kernel_rfl, by kernel_rfl, by kernel_rfl, by kernel_rfl⟩ (ev_sTreeOf x)
structure DepR (N : List NodeX) (n : Int) : Prop where
  yes : ∀ o, Vo o → N = layO o → n = (deepO o : Int)
  no : ¬ TreeP N → n = -1
def cDepth : Con := relC TreeX [(.rd, true)] [false] (fun t => [[.row 3 NodeX.ds t.N]]) (fun t r => ∃ n : Int, r = [[.lf (.int .i64 n)]] ∧ DepR t.N n)
theorem ev_iDepth : ∀ x, evFnX tab [(129, cRoot)] cDepth Try.f61 (body Try.f61) x := by
  rintro ⟨N, f, hf, hN, hp⟩
  conv => whnf
  refine ⟨⟨N, N.length + 1, Nat.le_succ _, hN, hp⟩, rfl, ?_⟩
  rintro _ _ ⟨rfl, o, deep, ok, rfl, rr⟩
  replace rr : RootR N (N.length + 1) o deep ok := rr
  cases ok with
  | false =>
    obtain ⟨h1, rfl⟩ := rr.no rfl
    conv => whnf
    exact ⟨⟨rfl, -1, rfl, fun o ho e => absurd ⟨o, ho, e⟩ h1, fun _ => rfl⟩⟩
  | true =>
    obtain ⟨h1, h2, h3, h4⟩ := rr.yes rfl
    rcases o with _ | ⟨us, is⟩
    all_goals
      conv => whnf
      refine ⟨⟨rfl, deep, rfl, fun o' ho' e => ?_, fun h => absurd ⟨_, h1, h2⟩ h⟩⟩
      rw [← layO_inj (h2.symm.trans e)]; exact h3
theorem iDepth_ok : FnOk Try.prog 61 cDepth := fnOk_of fun x => fnX_at tab_ok (SOk.cons root_ok SOk.nil) mixed (fn := Try.f61) (code := body Try.f61) ⟨Try.func61, rfl, by kernel_rfl, by kernel_rfl, by kernel_rfl, by kernel_rfl⟩ (ev_iDepth x)
/-- The value of a key. -/
def getV (k : ByteArray) (l : List RngX) : Option ByteArray := (l.find? fun p => eqK p.lo k).map RngX.hi
structure TGetX where
  t : TreeX
  k : ByteArray
structure TGetR (N : List NodeX) (k v : ByteArray) (ok : Bool) : Prop where
  yes : ∀ l, AllR N l → getV k l = if ok then some v else none
  no : ok = false → v = ⟨#[]⟩
def cTGet : Con := relC TGetX [(.rd, true), (.rd, false)] [false, false] (fun x => [[.row 3 NodeX.ds x.t.N], [.lf (.string x.k)]]) (fun x r => ∃ v ok, r = [[.lf (.string v)], [.lf (.bool ok)]] ∧ TGetR x.t.N x.k v ok)
theorem AllR.uniq {N : List NodeX} {l l' : List RngX} (h : AllR N l) (h' : AllR N l') : l = l' := by
  by_cases hT : TreeP N
  · obtain ⟨o, ho, e⟩ := hT
    exact (h.yes o ho e).trans (h'.yes o ho e).symm
  · exact (h.no hT).trans (h'.no hT).symm
theorem getV_at {k : ByteArray} {l : List RngX} {i : Nat} {y : RngX} (h : ∀ a ∈ l.take i, a.lo ≠ k) (hy : l[i]? = some y) (e : y.lo = k) : getV k l = some y.hi := by
  unfold getV
  have hf : (l.take i).find? (fun p => eqK p.lo k) = none := List.find?_eq_none.2 fun a ha => by
    intro e; exact h a ha (eqK_iff.1 e)
  rw [at_split hy, List.find?_append, hf]
  simp [eqK_iff.2 e]
theorem getV_no {k : ByteArray} {l : List RngX} (h : ∀ a ∈ l, a.lo ≠ k) : getV k l = none := by
  unfold getV
  rw [List.find?_eq_none.2 fun a ha => by intro e; exact h a ha (eqK_iff.1 e)]; rfl
theorem AllR.okk {N : List NodeX} {l : List RngX} (h : AllR N l) : PairsOkP l := by
  by_cases hT : TreeP N
  · obtain ⟨o, ho, e⟩ := hT
    rw [h.yes o ho e]; exact ho.ok
  · rw [h.no hT]; exact ⟨by simp, fun p hp => by simp at hp, List.Pairwise.nil⟩
theorem ev_iTreeGet : ∀ x, evFnX tab [(53, cTreeAll)] cTGet Try.f65 (body Try.f65) x := by
  rintro ⟨⟨N, f, hf, hN, hp⟩, k⟩
  conv => whnf
  refine ⟨⟨N, f, hf, hN, hp⟩, rfl, ?_⟩
  rintro _ _ ⟨rfl, l, rfl, ha⟩
  conv => whnf
  replace ha : AllR N l := ha
  have hl := ha.okk.len
  intro _
  conv => whnf
  let S0 : Nat → Sl := fun i => [(11, .lf (.int .i64 i)), (10, .lf (.int .i64 l.length)), (9, .sl 144 none), (1, .lf (.string k))]
  let H0 : Hp := [(144, some (.row .own 2 RngX.ds l))]
  refine ⟨fun m s h => ∃ i : Nat, i ≤ l.length ∧ (∀ a ∈ l.take i, a.lo ≠ k) ∧ m = l.length - i ∧ s = S0 i ∧ h = H0, l.length, [(144, 144)], S0 0, H0, ⟨rfl, ⟨rfl, rfl, rfl, rfl, trivial⟩, rfl, trivial⟩, ⟨0, by omega, by simp, by omega, rfl, rfl⟩, ?_⟩
  rintro m _ _ ⟨i, g1, g2, rfl, rfl, rfl⟩
  conv => whnf
  refine br2 (fun h5 => ?_) (fun h5 => ?_)
  · have hi : i < l.length := by have := of_decide_eq_true h5; omega
    obtain ⟨y, hy⟩ := getL hi
    conv => whnf
    refine ⟨Int.natCast_nonneg _, ltI hy, ?_⟩
    conv => whnf
    refine ex2 _ (nthI hy) ?_
    conv => whnf
    refine br2 (fun h6 => ?_) (fun h6 => ?_)
    · have h6' : y.lo = k := strEq_iff.1 h6
      conv => whnf
      exact ⟨⟨rfl, y.hi, true, rfl, fun l' h' => by rw [h'.uniq ha, getV_at g2 hy h6']; rfl, fun h => by cases h⟩⟩
    · have h6' : y.lo ≠ k := strEq_no.1 h6
      conv => whnf
      refine ⟨l.length - (i + 1), [(144, 144)], S0 (i + 1), H0, by omega, ⟨rfl, ⟨incI hi (by omega), rfl, rfl, rfl, trivial⟩, rfl, trivial⟩, i + 1, hi, fun a ha => ?_, rfl, rfl, rfl⟩
      rw [List.take_add_one, hy] at ha
      simp at ha
      rcases ha with ha | rfl
      · exact g2 a ha
      · exact h6'
  · have hi : i = l.length := by have := of_decide_eq_false h5; omega
    subst hi
    rw [List.take_length] at g2
    conv => whnf
    exact ⟨⟨rfl, ⟨#[]⟩, false, rfl, fun l' h' => by rw [h'.uniq ha, getV_no g2]; rfl, fun _ => rfl⟩⟩
theorem iTreeGet_ok : FnOk Try.prog 65 cTGet := fnOk_of fun x => fnX_at tab_ok (SOk.cons iTreeAll_ok SOk.nil) mixed (fn := Try.f65) (code := body Try.f65) ⟨Try.func65, rfl, by kernel_rfl, by kernel_rfl, by kernel_rfl, by kernel_rfl⟩ (ev_iTreeGet x)
theorem ev_sTreeGet : ∀ x, evFnX tab [(142, cKeyOk), (54, cTreeAll)] cTGet Try.f73 (body Try.f73) x := by
  rintro ⟨⟨N, f, hf, hN, hp⟩, k⟩
  conv => whnf
  refine ⟨k, rfl, ?_⟩
  rintro _ _ ⟨rfl, rfl⟩
  conv => whnf
  cases hk : keyOkB k with
  | false =>
    conv => whnf
    refine ⟨⟨rfl, ⟨#[]⟩, false, rfl, fun l h => ?_, fun _ => rfl⟩⟩
    have := h.okk
    refine getV_no fun a ha e => ?_
    have h2 := this.ok a ha
    have h3 : (keyOkB a.lo && decide (a.hi.size ≤ 60)) = true := h2
    have e' : a.lo = k := e
    rw [e', hk] at h3; cases h3
  | true =>
  conv => whnf
  refine ⟨⟨N, f, hf, hN, hp⟩, rfl, ?_⟩
  rintro _ _ ⟨rfl, l, rfl, ha⟩
  conv => whnf
  replace ha : AllR N l := ha
  have hl := ha.okk.len
  intro _
  conv => whnf
  let S0 : Nat → Sl := fun i => [(14, .lf (.int .i64 i)), (13, .lf (.int .i64 l.length)), (12, .sl 192 none), (1, .lf (.string k))]
  let H0 : Hp := [(192, some (.row .own 2 RngX.ds l))]
  refine ⟨fun m s h => ∃ i : Nat, i ≤ l.length ∧ (∀ a ∈ l.take i, a.lo ≠ k) ∧ m = l.length - i ∧ s = S0 i ∧ h = H0, l.length, [(192, 192)], S0 0, H0, ⟨rfl, ⟨rfl, rfl, rfl, rfl, trivial⟩, rfl, trivial⟩, ⟨0, by omega, by simp, by omega, rfl, rfl⟩, ?_⟩
  rintro m _ _ ⟨i, g1, g2, rfl, rfl, rfl⟩
  conv => whnf
  refine br2 (fun h5 => ?_) (fun h5 => ?_)
  · have hi : i < l.length := by have := of_decide_eq_true h5; omega
    obtain ⟨y, hy⟩ := getL hi
    conv => whnf
    refine ⟨Int.natCast_nonneg _, ltI hy, ?_⟩
    conv => whnf
    refine ex2 _ (nthI hy) ?_
    conv => whnf
    refine br2 (fun h6 => ?_) (fun h6 => ?_)
    · have h6' : y.lo = k := strEq_iff.1 h6
      conv => whnf
      exact ⟨⟨rfl, y.hi, true, rfl, fun l' h' => by rw [h'.uniq ha, getV_at g2 hy h6']; rfl, fun h => by cases h⟩⟩
    · have h6' : y.lo ≠ k := strEq_no.1 h6
      conv => whnf
      refine ⟨l.length - (i + 1), [(192, 192)], S0 (i + 1), H0, by omega, ⟨rfl, ⟨incI hi (by omega), rfl, rfl, rfl, trivial⟩, rfl, trivial⟩, i + 1, hi, fun a ha => ?_, rfl, rfl, rfl⟩
      rw [List.take_add_one, hy] at ha
      simp at ha
      rcases ha with ha | rfl
      · exact g2 a ha
      · exact h6'
  · have hi : i = l.length := by have := of_decide_eq_false h5; omega
    subst hi
    rw [List.take_length] at g2
    conv => whnf
    exact ⟨⟨rfl, ⟨#[]⟩, false, rfl, fun l' h' => by rw [h'.uniq ha, getV_no g2]; rfl, fun _ => rfl⟩⟩
theorem sTreeGet_ok : FnOk Try.prog 73 cTGet := fnOk_of fun x => fnX_at tab_ok (SOk.cons sKeyOk_ok (SOk.cons sTreeAll_ok SOk.nil)) mixed (fn := Try.f73) (code := body Try.f73) ⟨Try.func73, rfl, by kernel_rfl, by kernel_rfl, by kernel_rfl, by kernel_rfl⟩ (ev_sTreeGet x)
end Go.Vm
namespace Go.Vm
open Go.Proofs
set_option maxRecDepth 100000
set_option linter.unusedVariables false
set_option linter.unusedSimpArgs false

theorem TreeP.words {N : List NodeX} (h : TreeP N) : N.length ≤ 1048576 ∧ ∀ n ∈ N, nodeB n := by
  obtain ⟨h1, h2⟩ := h.small
  exact ⟨by omega, fun n hn => by obtain ⟨a, b, c⟩ := h2 n hn; exact ⟨by omega, by omega, by omega⟩⟩
structure TOfZ where
  l : List RngX
  h : l.length ≤ maxS ∧ ∀ y ∈ l, rngB0 y
theorem ev_lawTreeOf : ∀ x, evFnX tab [(66, (cSzS 2 RngX.ds rngB0 rngB)), (68, (cCopyS 2 RngX.ds)), (67, cTreeOf), (59, cTreeOf), (46, (cEq treeDs)), (45, (cEqS 2 RngX.ds)), (48, (cMarkS 2 RngX.ds markP 2)), (47, (cMarkN true)), (69, (cHeldN true))] (pureC TOfZ [(.rd, false)] [false] (fun x => [[.row 2 RngX.ds x.l]]) (fun _ => [[.lf (.bool true)]])) Try.f12 (body Try.f12) x := by
  rintro ⟨l, h⟩
  conv => whnf
  refine ⟨⟨l, 1048576, by omega, by omega, h⟩, rfl, ?_⟩
  rintro _ _ ⟨rfl, k, rfl, k1, k2, k3⟩
  conv => whnf
  replace k2 : k ≤ 1048576 := k2
  refine br2 (fun h3 => ?_) (fun h3 => ?_)
  · conv => whnf
    exact ⟨⟨rfl, rfl⟩⟩
  have h3' := of_decide_eq_false h3
  obtain ⟨hl, -⟩ := k3 (by omega)
  replace hl : (l.length : Int) + k ≤ 1048576 := hl
  have hll : l.length ≤ 1048576 := by omega
  conv => whnf
  refine ⟨⟨l, hll⟩, rfl, ?_⟩
  rintro _ _ ⟨rfl, rfl⟩
  conv => whnf
  refine ⟨l, rfl, ?_⟩
  rintro _ _ ⟨rfl, N, ok, rfl, r1⟩
  conv => whnf
  refine ⟨⟨l, hll⟩, rfl, ?_⟩
  rintro _ _ ⟨rfl, rfl⟩
  conv => whnf
  refine ⟨l, rfl, ?_⟩
  rintro _ _ ⟨rfl, N', ok', rfl, r2⟩
  conv => whnf
  obtain ⟨rfl, rfl⟩ := r1.same r2
  clear r2
  have hN := r1.tree.words
  have hl0 : (!eqX l l) = false := by rw [eqX_refl]; rfl
  have hN0 : (!eqX N N) = false := by rw [eqX_refl]; rfl
  have hW := nodesW_le hN.2
  have hW0 := nodesW_pos N
  have hk0 : (ok != ok) = false := by cases ok <;> rfl
  refine ⟨(N, N), rfl, ?_⟩
  rintro _ _ ⟨rfl, rfl⟩
  conv => whnf
  refine br2 (fun h4 => ?_) (fun h4 => ?_)
  · exact absurd (hN0.symm.trans h4) (by simp)
  conv => whnf
  refine br2 (fun h5 => ?_) (fun h5 => ?_)
  · exact absurd (hk0.symm.trans h5) (by simp)
  conv => whnf
  refine ⟨⟨l, hll⟩, rfl, ?_⟩
  rintro _ _ ⟨rfl, rfl⟩
  conv => whnf
  refine ⟨(l, l), rfl, ?_⟩
  rintro _ _ ⟨rfl, rfl⟩
  conv => whnf
  refine br2 (fun h6 => ?_) (fun h6 => ?_)
  · exact absurd (hl0.symm.trans h6) (by simp)
  conv => whnf
  refine ⟨⟨⟨l, 1, by omega, by omega⟩, hll⟩, rfl, ?_⟩
  rintro _ _ ⟨rfl, rfl⟩
  conv => whnf
  refine ⟨(N, N), rfl, ?_⟩
  rintro _ _ ⟨rfl, rfl⟩
  conv => whnf
  refine br2 (fun h8 => ?_) (fun h8 => ?_)
  · exact absurd (hN0.symm.trans h8) (by simp)
  conv => whnf
  refine br2 (fun h5 => ?_) (fun h5 => ?_)
  · exact absurd (hk0.symm.trans h5) (by simp)
  conv => whnf
  refine ⟨⟨N, 1, by omega, by omega, hN.1, hN.2⟩, rfl, ?_⟩
  rintro _ _ ⟨rfl, rfl⟩
  conv => whnf
  refine ⟨⟨N, 1, by omega, by omega, hN.1, hN.2⟩, rfl, ?_⟩
  rintro _ _ ⟨rfl, rfl⟩
  conv => whnf
  refine br2 (fun h6 => ?_) (fun h6 => ?_)
  · exfalso
    have : 1 + nodesW N < 0 := of_decide_eq_true h6
    omega
  conv => whnf
  refine br2 (fun h7 => ?_) (fun h7 => ?_)
  · exfalso
    replace h7 : ((1 + nodesW N) != (1 + nodesW N)) = true := h7
    simp at h7
  conv => whnf
  refine ⟨⟨l, hll⟩, rfl, ?_⟩
  rintro _ _ ⟨rfl, rfl⟩
  conv => whnf
  refine ⟨l, rfl, ?_⟩
  rintro _ _ ⟨rfl, N', ok', rfl, r2⟩
  conv => whnf
  obtain ⟨rfl, rfl⟩ := r1.same r2
  clear r2
  refine ⟨(N, N), rfl, ?_⟩
  rintro _ _ ⟨rfl, rfl⟩
  conv => whnf
  refine br2 (fun h4 => ?_) (fun h4 => ?_)
  · exact absurd (hN0.symm.trans h4) (by simp)
  conv => whnf
  refine br2 (fun h5 => ?_) (fun h5 => ?_)
  · exact absurd (hk0.symm.trans h5) (by simp)
  conv => whnf
  refine ⟨⟨N, 1, by omega, by omega, hN.1, hN.2⟩, rfl, ?_⟩
  rintro _ _ ⟨rfl, rfl⟩
  conv => whnf
  refine br2 (fun h6 => ?_) (fun h6 => ?_)
  · exfalso
    have : 1 + nodesW N < 0 := of_decide_eq_true h6
    omega
  conv => whnf
  refine br2 (fun h7 => ?_) (fun h7 => ?_)
  · exfalso
    replace h7 : ((1 + nodesW N) != (1 + nodesW N)) = true := h7
    simp at h7
  conv => whnf
  exact ⟨⟨rfl, rfl⟩⟩
theorem lawTreeOf_ok : FnOk Try.prog 12 (pureC TOfZ [(.rd, false)] [false] (fun x => [[.row 2 RngX.ds x.l]]) (fun _ => [[.lf (.bool true)]])) := fnOk_of fun x => fnX_at tab_ok (SOk.cons szPairS_ok (SOk.cons toPairS_ok (SOk.cons sTreeOf_ok (SOk.cons iTreeOf_ok (SOk.cons eqTree_ok (SOk.cons eqPairS_ok (SOk.cons markPairS_ok (SOk.cons markTree_ok (SOk.cons heldTree_ok SOk.nil))))))))) mixed (fn := Try.f12) (code := body Try.f12) ⟨Try.func12, rfl, by kernel_rfl, by kernel_rfl, by kernel_rfl, by kernel_rfl⟩ (ev_lawTreeOf x)
end Go.Vm
