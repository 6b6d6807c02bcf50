/- Contracts: the law about right locks. -/
import Derived.Test.YthoiahaedhnigaaKa
namespace Go.Vm
open Go.Proofs
set_option maxRecDepth 100000
set_option linter.unusedVariables false
set_option linter.unusedSimpArgs false

theorem b_eq {a b : Bool} {p : Prop} (h : a = true ↔ p) (h' : b = true ↔ p) : a = b := by
  cases a <;> cases b <;> simp_all
theorem ne_no {a b : Bool} (h : a = b) : (a != b) = false := by subst h; simp
structure LocksZ where
  x : LocksX
  hb : locksB0 x
theorem ev_lawLocksOk : ∀ x, evFnX tab [(27, (cSz LocksX.ds locksB0 locksB)), (29, cToLocks), (28, cLocksOk), (30, cLocksOk), (31, (cEq LocksX.ds))] (pureC LocksZ [(.rd, true)] [false] (fun x => [x.x.ds]) (fun _ => [[.lf (.bool true)]])) Try.f6 (body Try.f6) x := by
  rintro ⟨x, hb⟩
  conv => whnf
  refine ⟨⟨x, 1048576, by omega, by omega, hb⟩, rfl, ?_⟩
  rintro _ _ ⟨rfl, k, rfl, k1, k2, k3⟩
  conv => whnf
  refine br2 (fun h3 => ?_) (fun h3 => ?_)
  · conv => whnf
    exact ⟨⟨rfl, rfl⟩⟩
  have h3' := of_decide_eq_false h3
  obtain ⟨k4, _, _⟩ : locksB x := k3 (by omega)
  conv => whnf
  refine ⟨⟨x, by omega, by omega⟩, rfl, ?_⟩
  rintro _ _ ⟨rfl, rfl⟩
  conv => whnf
  refine ⟨x, rfl, ?_⟩
  rintro _ _ ⟨rfl, b, rfl, e1⟩
  conv => whnf
  refine ⟨⟨x, by omega, by omega⟩, rfl, ?_⟩
  rintro _ _ ⟨rfl, rfl⟩
  conv => whnf
  refine ⟨x, rfl, ?_⟩
  rintro _ _ ⟨rfl, b', rfl, e2⟩
  conv => whnf
  refine br2 (fun h4 => ?_) (fun h4 => ?_)
  · exfalso
    have e3 := b_eq e2 e1
    subst e3
    simp at h4
  conv => whnf
  refine ⟨⟨x, by omega, by omega⟩, rfl, ?_⟩
  rintro _ _ ⟨rfl, rfl⟩
  conv => whnf
  repeat (refine rc_i rfl ?_; conv => whnf)
  refine ⟨(x, x), rfl, ?_⟩
  rintro _ _ ⟨rfl, rfl⟩
  conv => whnf
  refine br2 (fun h5 => ?_) (fun h5 => ?_)
  · rw [show (!eqX x x) = false by rw [eqX_refl]; rfl] at h5
    cases h5
  conv => whnf
  exact ⟨⟨rfl, rfl⟩⟩
theorem lawLocksOk_ok : FnOk Try.prog 6 (pureC LocksZ [(.rd, true)] [false] (fun x => [x.x.ds]) (fun _ => [[.lf (.bool true)]])) := fnOk_of fun x => fnX_at tab_ok (SOk.cons szLocks_ok (SOk.cons toLocks_ok (SOk.cons sLocksOk_ok (SOk.cons iLocksOk_ok (SOk.cons eqLocks_ok SOk.nil))))) mixed (fn := Try.f6) (code := body Try.f6) ⟨Try.func6, rfl, by kernel_rfl, by kernel_rfl, by kernel_rfl, by kernel_rfl⟩ (ev_lawLocksOk x)
end Go.Vm
namespace Go.Vm
open Go.Proofs
set_option maxRecDepth 100000
set_option linter.unusedVariables false
set_option linter.unusedSimpArgs false

theorem ev_sRangeIn : ∀ x, evFnX tab [(65, cRangeOk)] (pureC (RngX × RngX) [(.rd, true), (.rd, true)] [false] (fun x => [x.1.ds, x.2.ds]) (fun x => [[.lf (.bool (withinB x.1 x.2))]])) Try.f95 (body Try.f95) x := by
  rintro ⟨⟨a, b⟩, ⟨c, d⟩⟩
  repeat' ((conv => whnf); first | refine br2 (fun h => ?_) (fun h => ?_) | (refine ⟨(a, b), rfl, ?_⟩; rintro _ _ ⟨rfl, rfl⟩) | (refine ⟨(c, d), rfl, ?_⟩; rintro _ _ ⟨rfl, rfl⟩))
  all_goals (conv => whnf)
  all_goals refine ⟨⟨rfl, ?_⟩⟩
  all_goals show _ = [[D.lf (.bool (withinB ⟨a, b⟩ ⟨c, d⟩))]]
  all_goals simp_all [withinB, emp]
theorem sRangeIn_ok : FnOk Try.prog 95 (pureC (RngX × RngX) [(.rd, true), (.rd, true)] [false] (fun x => [x.1.ds, x.2.ds]) (fun x => [[.lf (.bool (withinB x.1 x.2))]])) := fnOk_of fun x => fnX_at tab_ok (SOk.cons sRangeOk_ok SOk.nil) mixed (fn := Try.f95) (code := body Try.f95) ⟨Try.func95, rfl, by kernel_rfl, by kernel_rfl, by kernel_rfl, by kernel_rfl⟩ (ev_sRangeIn x)
structure HasX where
  x : LocksX
  t : TxX
  r : RngX
  e : Bool
def HasX.ask (x : HasX) (y : LockX) : Bool := PredX.ask (.has x.t x.r x.e) y
def HasP (x : HasX) : Prop := LocksOkP x.x ∧ x.x.held.any x.ask = true
def cLockHas : Con := relC HasX [(.rd, true), (.rd, true), (.rd, true), (.rd, false)] [false] (fun x => [x.x.ds, x.t.ds, x.r.ds, [.lf (.bool x.e)]]) (fun x r => ∃ b : Bool, r = [[.lf (.bool b)]] ∧ (b = true ↔ HasP x))
theorem ev_sLockHas : ∀ x, evFnX tab [(28, cLocksOk), (95, (pureC (RngX × RngX) [(.rd, true), (.rd, true)] [false] (fun x => [x.1.ds, x.2.ds]) (fun x => [[.lf (.bool (withinB x.1 x.2))]])))] cLockHas Try.f41 (body Try.f41) x := by
  rintro ⟨⟨l, w⟩, t, r, e⟩
  have ask : ∀ y, HasX.ask ⟨⟨l, w⟩, t, r, e⟩ y = (txEq y.tx t && withinB r y.rng && (y.ex || !e)) := fun _ => rfl
  conv => whnf
  refine ⟨⟨l, w⟩, rfl, ?_⟩
  rintro _ _ ⟨rfl, b, rfl, e1⟩
  conv => whnf
  refine br2 (fun h1 => ?_) (fun h1 => ?_)
  · have h1' := nt_t h1
    conv => whnf
    refine ⟨⟨rfl, false, rfl, (fun h => by cases h), fun h => ?_⟩⟩
    rw [e1.2 h.1] at h1'; cases h1'
  have hok : LocksOkP ⟨l, w⟩ := e1.1 (nt_f h1)
  conv => whnf
  intro h2
  replace h2 : l.length ≤ 9223372036854775807 := h2
  conv => whnf
  refine ⟨fun m s h => ∃ i : Nat, i ≤ l.length ∧ (∀ j y, j < i → l[j]? = some y → HasX.ask ⟨⟨l, w⟩, t, r, e⟩ y = false) ∧ m = l.length - i ∧ s = [(17, .lf (.int .i64 i)), (16, .lf (.int .i64 l.length)), (15, .sl 0 none), (5, .pt 80 0 0), (6, .pt 96 0 0), (3, .lf (.bool e))] ∧ h = [(96, some (.arr true 2 [r.vs])), (80, some (.arr true 3 [t.vs])), (0, some (.row .lent 6 LockX.ds l))],
    l.length, [(96, 96), (80, 80), (0, 0)], [(17, .lf (.int .i64 0)), (16, .lf (.int .i64 l.length)), (15, .sl 0 none), (5, .pt 80 0 0), (6, .pt 96 0 0), (3, .lf (.bool e))], [(96, some (.arr true 2 [r.vs])), (80, some (.arr true 3 [t.vs])), (0, some (.row .lent 6 LockX.ds l))], ⟨rfl, ⟨rfl, rfl, rfl, rfl, rfl, rfl, trivial⟩, ⟨rfl, rfl, rfl, trivial⟩⟩, ⟨0, by omega, fun j y h => by omega, by omega, rfl, rfl⟩, ?_⟩
  rintro m _ _ ⟨i, g1, g2, rfl, rfl, rfl⟩
  conv => whnf
  refine br2 (fun h5 => ?_) (fun h5 => ?_)
  · have hi : i < l.length := by have := of_decide_eq_true h5; omega
    obtain ⟨y, hy⟩ : ∃ y, l[i]? = some y := ⟨_, List.getElem?_eq_getElem hi⟩
    have hy2 : nth l ((i : Nat) : Int).toNat = some y := by rw [nth_eq, Int.toNat_natCast]; exact hy
    conv => whnf
    refine ⟨Int.natCast_nonneg _, (show (i : Int) < (l.length : Int) by omega), ?_⟩
    conv => whnf
    refine ex2 y hy2 ?_
    conv => whnf
    refine br2 (fun h6 => ?_) (fun h6 => ?_)
    · replace h6 : txEq y.tx t = true := h6
      conv => whnf
      refine ⟨(r, y.rng), rfl, ?_⟩
      rintro _ _ ⟨rfl, rfl⟩
      conv => whnf
      refine br2 (fun h7 => ?_) (fun h7 => ?_)
      · replace h7 : withinB r y.rng = true := h7
        conv => whnf
        refine br2 (fun h8 => ?_) (fun h8 => ?_)
        · replace h8 : y.ex = true := h8
          conv => whnf
          refine ⟨⟨rfl, true, rfl, fun _ => ⟨hok, any_at hy ?_⟩, fun _ => rfl⟩⟩
          rw [ask]; simp [h6, h7, h8]
        · replace h8 : y.ex = false := h8
          conv => whnf
          refine br2 (fun h9 => ?_) (fun h9 => ?_)
          · replace h9 : e = false := nt_t h9
            conv => whnf
            refine ⟨⟨rfl, true, rfl, fun _ => ⟨hok, any_at hy ?_⟩, fun _ => rfl⟩⟩
            rw [ask]; simp [h6, h7, h9]
          · replace h9 : e = true := nt_f h9
            conv => whnf
            refine ⟨l.length - (i + 1), [(96, 96), (80, 80), (0, 0)], [(17, .lf (.int .i64 ((i + 1 : Nat) : Int))), (16, .lf (.int .i64 l.length)), (15, .sl 0 none), (5, .pt 80 0 0), (6, .pt 96 0 0), (3, .lf (.bool e))], [(96, some (.arr true 2 [r.vs])), (80, some (.arr true 3 [t.vs])), (0, some (.row .lent 6 LockX.ds l))], by omega, ⟨rfl, ⟨?_, rfl, rfl, rfl, rfl, rfl, trivial⟩, ⟨rfl, rfl, rfl, trivial⟩⟩, i + 1, by omega, fun j z hj hz => ?_, rfl, rfl, rfl⟩
            · show V.lf (.int .i64 (IntKind.i64.wrap ((i : Int) + 1))) = _
              rw [w64 (by omega) (by omega)]; rfl
            · rcases Nat.lt_or_ge j i with h10 | h10
              · exact g2 j z h10 hz
              · obtain rfl : j = i := by omega
                rw [hy] at hz; cases hz; rw [ask]; simp [h6, h7, h8, h9]
      · replace h7 : withinB r y.rng = false := h7
        conv => whnf
        refine ⟨l.length - (i + 1), [(96, 96), (80, 80), (0, 0)], [(17, .lf (.int .i64 ((i + 1 : Nat) : Int))), (16, .lf (.int .i64 l.length)), (15, .sl 0 none), (5, .pt 80 0 0), (6, .pt 96 0 0), (3, .lf (.bool e))], [(96, some (.arr true 2 [r.vs])), (80, some (.arr true 3 [t.vs])), (0, some (.row .lent 6 LockX.ds l))], by omega, ⟨rfl, ⟨?_, rfl, rfl, rfl, rfl, rfl, trivial⟩, ⟨rfl, rfl, rfl, trivial⟩⟩, i + 1, by omega, fun j z hj hz => ?_, rfl, rfl, rfl⟩
        · show V.lf (.int .i64 (IntKind.i64.wrap ((i : Int) + 1))) = _
          rw [w64 (by omega) (by omega)]; rfl
        · rcases Nat.lt_or_ge j i with h10 | h10
          · exact g2 j z h10 hz
          · obtain rfl : j = i := by omega
            rw [hy] at hz; cases hz; rw [ask]; simp [h6, h7]
    · replace h6 : txEq y.tx t = false := h6
      conv => whnf
      refine ⟨l.length - (i + 1), [(96, 96), (80, 80), (0, 0)], [(17, .lf (.int .i64 ((i + 1 : Nat) : Int))), (16, .lf (.int .i64 l.length)), (15, .sl 0 none), (5, .pt 80 0 0), (6, .pt 96 0 0), (3, .lf (.bool e))], [(96, some (.arr true 2 [r.vs])), (80, some (.arr true 3 [t.vs])), (0, some (.row .lent 6 LockX.ds l))], by omega, ⟨rfl, ⟨?_, rfl, rfl, rfl, rfl, rfl, trivial⟩, ⟨rfl, rfl, rfl, trivial⟩⟩, i + 1, by omega, fun j z hj hz => ?_, rfl, rfl, rfl⟩
      · show V.lf (.int .i64 (IntKind.i64.wrap ((i : Int) + 1))) = _
        rw [w64 (by omega) (by omega)]; rfl
      · rcases Nat.lt_or_ge j i with h10 | h10
        · exact g2 j z h10 hz
        · obtain rfl : j = i := by omega
          rw [hy] at hz; cases hz; rw [ask]; simp [h6]
  · have hi : i = l.length := by have := of_decide_eq_false h5; omega
    conv => whnf
    refine ⟨⟨rfl, false, rfl, (fun h => by cases h), fun h => ?_⟩⟩
    have := any_no (l := l) (p := HasX.ask ⟨⟨l, w⟩, t, r, e⟩) (by rw [← hi]; exact g2)
    have h3 := h.2
    rw [show l.any (HasX.ask ⟨⟨l, w⟩, t, r, e⟩) = true from h3] at this
    cases this
theorem sLockHas_ok : FnOk Try.prog 41 cLockHas := fnOk_of fun x => fnX_at tab_ok (SOk.cons sLocksOk_ok (SOk.cons sRangeIn_ok SOk.nil)) mixed (fn := Try.f41) (code := body Try.f41) ⟨Try.func41, rfl, by kernel_rfl, by kernel_rfl, by kernel_rfl, by kernel_rfl⟩ (ev_sLockHas x)
theorem ev_has : ∀ x, evFnX tab [(135, (pureC (List LockX × PredX) [(.rd, false), (.rd, false)] [false] (fun x => [[.row 6 LockX.ds x.1], [x.2.d]]) (fun x => [[.lf (.bool (x.1.any x.2.ask))]])))] (pureC HasX [(.rd, false), (.rd, true), (.rd, true), (.rd, false)] [false] (fun x => [[.box x.x.ds], x.t.ds, x.r.ds, [.lf (.bool x.e)]]) (fun x => [[.lf (.bool (x.x.held.any x.ask))]])) Try.f96 (body Try.f96) x := by
  rintro ⟨⟨l, w⟩, t, r, e⟩
  conv => whnf
  refine ⟨(l, .has t r e), rfl, ?_⟩
  rintro _ _ ⟨rfl, rfl⟩
  conv => whnf
  exact ⟨⟨rfl, rfl⟩⟩
theorem has_ok : FnOk Try.prog 96 (pureC HasX [(.rd, false), (.rd, true), (.rd, true), (.rd, false)] [false] (fun x => [[.box x.x.ds], x.t.ds, x.r.ds, [.lf (.bool x.e)]]) (fun x => [[.lf (.bool (x.x.held.any x.ask))]])) := fnOk_of fun x => fnX_at tab_ok (SOk.cons conL_ok SOk.nil) mixed (fn := Try.f96) (code := body Try.f96) ⟨Try.func96, rfl, by kernel_rfl, by kernel_rfl, by kernel_rfl, by kernel_rfl⟩ (ev_has x)
theorem ev_iLockHas : ∀ x, evFnX tab [(30, cLocksOk), (96, (pureC HasX [(.rd, false), (.rd, true), (.rd, true), (.rd, false)] [false] (fun x => [[.box x.x.ds], x.t.ds, x.r.ds, [.lf (.bool x.e)]]) (fun x => [[.lf (.bool (x.x.held.any x.ask))]])))] cLockHas Try.f44 (body Try.f44) x := by
  rintro ⟨⟨l, w⟩, t, r, e⟩
  conv => whnf
  refine ⟨⟨l, w⟩, rfl, ?_⟩
  rintro _ _ ⟨rfl, b, rfl, e1⟩
  conv => whnf
  refine br2 (fun h1 => ?_) (fun h1 => ?_)
  · conv => whnf
    refine ⟨⟨⟨l, w⟩, t, r, e⟩, rfl, ?_⟩
    rintro _ _ ⟨rfl, rfl⟩
    conv => whnf
    exact ⟨⟨rfl, _, rfl, (fun h => ⟨e1.1 h1, h⟩), fun h => h.2⟩⟩
  · conv => whnf
    refine ⟨⟨rfl, false, rfl, (fun h => by cases h), fun h => ?_⟩⟩
    rw [e1.2 h.1] at h1; cases h1
theorem iLockHas_ok : FnOk Try.prog 44 cLockHas := fnOk_of fun x => fnX_at tab_ok (SOk.cons iLocksOk_ok (SOk.cons has_ok SOk.nil)) mixed (fn := Try.f44) (code := body Try.f44) ⟨Try.func44, rfl, by kernel_rfl, by kernel_rfl, by kernel_rfl, by kernel_rfl⟩ (ev_iLockHas x)
structure HasZ where
  x : HasX
  h1 : locksB0 x.x
  h2 : rngB0 x.r
theorem ev_lawLockHas : ∀ x, evFnX tab [(27, (cSz LocksX.ds locksB0 locksB)), (40, (cSz RngX.ds rngB0 rngB)), (29, cToLocks), (42, (cCopy TxX.ds)), (43, (cCopy RngX.ds)), (41, cLockHas), (44, cLockHas), (31, (cEq LocksX.ds))] (pureC HasZ [(.rd, true), (.rd, true), (.rd, true), (.rd, false)] [false] (fun x => [x.x.x.ds, x.x.t.ds, x.x.r.ds, [.lf (.bool x.x.e)]]) (fun _ => [[.lf (.bool true)]])) Try.f8 (body Try.f8) x := by
  rintro ⟨⟨x, t, r, e⟩, hb, hb2⟩
  conv => whnf
  refine ⟨⟨x, 1048576, by omega, by omega, hb⟩, rfl, ?_⟩
  rintro _ _ ⟨rfl, k, rfl, k1, k2, k3⟩
  replace k2 : k ≤ 1048576 := k2
  conv => whnf
  refine br2 (fun h3 => ?_) (fun h3 => ?_)
  · conv => whnf
    exact ⟨⟨rfl, rfl⟩⟩
  have h3' := of_decide_eq_false h3
  obtain ⟨k4, _, _⟩ : locksB x := k3 (by omega)
  conv => whnf
  refine ⟨⟨r, k, by omega, by omega, hb2⟩, rfl, ?_⟩
  rintro _ _ ⟨rfl, k', rfl, j1, j2, j3⟩
  conv => whnf
  refine br2 (fun h4 => ?_) (fun h4 => ?_)
  · conv => whnf
    exact ⟨⟨rfl, rfl⟩⟩
  conv => whnf
  refine ⟨⟨x, by omega, by omega⟩, rfl, ?_⟩
  rintro _ _ ⟨rfl, rfl⟩
  conv => whnf
  repeat (refine rc_i rfl ?_; conv => whnf)
  refine ⟨t, rfl, ?_⟩
  rintro _ _ ⟨rfl, rfl⟩
  conv => whnf
  repeat (refine rc_i rfl ?_; conv => whnf)
  refine ⟨r, rfl, ?_⟩
  rintro _ _ ⟨rfl, rfl⟩
  conv => whnf
  repeat (refine rc_i rfl ?_; conv => whnf)
  refine ⟨⟨x, t, r, e⟩, rfl, ?_⟩
  rintro _ _ ⟨rfl, b, rfl, e1⟩
  conv => whnf
  refine ⟨⟨x, by omega, by omega⟩, rfl, ?_⟩
  rintro _ _ ⟨rfl, rfl⟩
  conv => whnf
  refine ⟨t, rfl, ?_⟩
  rintro _ _ ⟨rfl, rfl⟩
  conv => whnf
  repeat (refine rc_i rfl ?_; conv => whnf)
  refine ⟨r, rfl, ?_⟩
  rintro _ _ ⟨rfl, rfl⟩
  conv => whnf
  repeat (refine rc_i rfl ?_; conv => whnf)
  refine ⟨⟨x, t, r, e⟩, rfl, ?_⟩
  rintro _ _ ⟨rfl, b', rfl, e2⟩
  conv => whnf
  refine br2 (fun h5 => ?_) (fun h5 => ?_)
  · exfalso
    have e3 := b_eq e2 e1
    subst e3
    simp at h5
  conv => whnf
  refine ⟨⟨x, by omega, by omega⟩, rfl, ?_⟩
  rintro _ _ ⟨rfl, rfl⟩
  conv => whnf
  repeat (refine rc_i rfl ?_; conv => whnf)
  refine ⟨(x, x), rfl, ?_⟩
  rintro _ _ ⟨rfl, rfl⟩
  conv => whnf
  refine br2 (fun h5 => ?_) (fun h5 => ?_)
  · rw [show (!eqX x x) = false by rw [eqX_refl]; rfl] at h5
    cases h5
  conv => whnf
  exact ⟨⟨rfl, rfl⟩⟩
theorem lawLockHas_ok : FnOk Try.prog 8 (pureC HasZ [(.rd, true), (.rd, true), (.rd, true), (.rd, false)] [false] (fun x => [x.x.x.ds, x.x.t.ds, x.x.r.ds, [.lf (.bool x.x.e)]]) (fun _ => [[.lf (.bool true)]])) := fnOk_of fun x => fnX_at tab_ok (SOk.cons szLocks_ok (SOk.cons szRange_ok (SOk.cons toLocks_ok (SOk.cons toTx_ok (SOk.cons toRange_ok (SOk.cons sLockHas_ok (SOk.cons iLockHas_ok (SOk.cons eqLocks_ok SOk.nil)))))))) mixed (fn := Try.f8) (code := body Try.f8) ⟨Try.func8, rfl, by kernel_rfl, by kernel_rfl, by kernel_rfl, by kernel_rfl⟩ (ev_lawLockHas x)
end Go.Vm
namespace Go.Vm
open Go.Proofs
set_option maxRecDepth 100000
set_option linter.unusedVariables false
set_option linter.unusedSimpArgs false

def txE (x : TxX) : List D := x.ds
def lockE (x : LockX) : List D := x.ds
def locksE (x : LocksX) : List D := x.ds
def txP (x : TxX) : Prop := intP x.c ∧ intP x.e ∧ intP x.n
def lockP (x : LockX) : Prop := True
theorem ev_l07Tx : ∀ x, evFnX tab [(120, cBelow)] (cDraw true txE txP) Try.f119 (body Try.f119) x := by
  intro c
  conv => whnf
  refine useBelow (c := c) (n := 3) rfl (by decide) fun c v a1 a2 _ => ?_
  replace a2 : v < 3 := a2 (by decide)
  conv => whnf
  refine useBelow (c := c) (n := 2) rfl (by decide) fun c v' b1 b2 _ => ?_
  conv => whnf
  refine useBelow (c := c) (n := 3) rfl (by decide) fun c v'' c1 c2 _ => ?_
  conv => whnf
  have e0 : intP v := ⟨by omega, by omega⟩
  exact ⟨⟨c, ⟨v, _, _⟩, rfl, rfl, e0, ⟨wrap_lo _, wrap_hi _⟩, ⟨wrap_lo _, wrap_hi _⟩⟩⟩
theorem l07Tx_ok : FnOk Try.prog 119 (cDraw true txE txP) := fnOk_of fun x => fnX_at tab_ok (SOk.cons l01Below_ok SOk.nil) mixed (fn := Try.f119) (code := body Try.f119) ⟨Try.func119, rfl, by kernel_rfl, by kernel_rfl, by kernel_rfl, by kernel_rfl⟩ (ev_l07Tx x)
theorem ev_l07Lock : ∀ x, evFnX tab [(120, cBelow), (119, (cDraw true txE txP)), (121, (cDraw true rngE (rngP 17)))] (cDraw true lockE lockP) Try.f154 (body Try.f154) x := by
  intro c
  conv => whnf
  refine useDraw (c := c) rfl fun c t _ => ?_
  conv => whnf
  refine useDraw (c := c) rfl fun c r _ => ?_
  conv => whnf
  refine useBelow (c := c) (n := 2) rfl (by decide) fun c v a1 a2 _ => ?_
  conv => whnf
  exact ⟨⟨c, ⟨t, r, _⟩, rfl, rfl, trivial⟩⟩
theorem l07Lock_ok : FnOk Try.prog 154 (cDraw true lockE lockP) := fnOk_of fun x => fnX_at tab_ok (SOk.cons l01Below_ok (SOk.cons l07Tx_ok (SOk.cons l02Range_ok SOk.nil))) mixed (fn := Try.f154) (code := body Try.f154) ⟨Try.func154, rfl, by kernel_rfl, by kernel_rfl, by kernel_rfl, by kernel_rfl⟩ (ev_l07Lock x)
theorem ev_l07AnyTx : ∀ x, evFnX tab [(120, cBelow), (119, (cDraw true txE txP)), (142, (cDraw false intE intP))] (cDraw true txE txP) Try.f155 (body Try.f155) x := by
  intro c
  conv => whnf
  refine useDraw (c := c) rfl fun c t ht => ?_
  obtain ⟨t1, t2, t3⟩ := t
  obtain ⟨p1, p2, p3⟩ : intP t1 ∧ intP t2 ∧ intP t3 := ht
  conv => whnf
  refine useBelow (c := c) (n := 12) rfl (by decide) fun c k k1 k2 k3 => ?_
  clear k1 k2 k3
  have fin : ∀ (c : CurX) (a b d : Int), intP a → intP b → intP d → ∃ (c' : CurX) (r : TxX), [[c.d]] = [[c'.d]] ∧ [[D.lf (.int .i64 a), D.lf (.int .i64 b), D.lf (.int .i64 d)]] = [txE r] ∧ txP r := fun c a b d h1 h2 h3 => ⟨c, ⟨a, b, d⟩, rfl, rfl, h1, h2, h3⟩
  have g1 : (k == 0) = true → k = 0 := fun h => eq_of_beq h
  have g2 : (k == 1) = true → k = 1 := fun h => eq_of_beq h
  have g3 : (k == 2) = true → k = 2 := fun h => eq_of_beq h
  have ints : ∀ (a b d q : Int), intP a → intP b → intP d → intP q → intEls [[.lf (.int .i64 a)], [.lf (.int .i64 b)], [.lf (.int .i64 d)], [.lf (.int .i64 q)]] = true := by
    rintro a b d q ⟨h1, h2⟩ ⟨h3, h4⟩ ⟨h5, h6⟩ ⟨h7, h8⟩
    simp [intEls, h1, h2, h3, h4, h5, h6, h7, h8]
  have lit : ∀ n : Int, -2000 ≤ n → n ≤ 2000 → intP n := fun n h1 h2 => ⟨by omega, by omega⟩
  conv => whnf
  refine br2 (fun h0 => ?_) (fun h0 => ?_)
  · obtain rfl := g1 h0
    conv => whnf
    refine useDraw (c := c) rfl fun c a ha => ?_
    conv => whnf
    refine useBelow (c := c) (n := 4) rfl (by decide) fun c v a1 a2 _ => ?_
    replace a2 : v < 4 := a2 (by decide)
    conv => whnf
    refine ⟨a1, a2, ?_⟩
    conv => whnf
    refine exInt ?_ ?_ fun s h1 h2 => ?_
    · exact ints 7 8 (-1) a (lit _ (by decide) (by decide)) (lit _ (by decide) (by decide)) (lit _ (by decide) (by decide)) ha
    · show v.toNat < 4; omega
    conv => whnf
    exact ⟨fin _ _ _ _ ⟨h1, h2⟩ p2 p3⟩
  conv => whnf
  refine br2 (fun h0 => ?_) (fun h0 => ?_)
  · obtain rfl := g2 h0
    conv => whnf
    refine useDraw (c := c) rfl fun c a ha => ?_
    conv => whnf
    refine useBelow (c := c) (n := 4) rfl (by decide) fun c v a1 a2 _ => ?_
    replace a2 : v < 4 := a2 (by decide)
    conv => whnf
    refine ⟨a1, a2, ?_⟩
    conv => whnf
    refine exInt ?_ ?_ fun s h1 h2 => ?_
    · exact ints 0 999 1000 a (lit _ (by decide) (by decide)) (lit _ (by decide) (by decide)) (lit _ (by decide) (by decide)) ha
    · show v.toNat < 4; omega
    conv => whnf
    exact ⟨fin _ _ _ _ p1 ⟨h1, h2⟩ p3⟩
  conv => whnf
  refine br2 (fun h0 => ?_) (fun h0 => ?_)
  · conv => whnf
    refine useDraw (c := c) rfl fun c a ha => ?_
    conv => whnf
    refine useBelow (c := c) (n := 4) rfl (by decide) fun c v a1 a2 _ => ?_
    replace a2 : v < 4 := a2 (by decide)
    conv => whnf
    refine ⟨a1, a2, ?_⟩
    conv => whnf
    refine exInt ?_ ?_ fun s h1 h2 => ?_
    · exact ints 0 999 1000 a (lit _ (by decide) (by decide)) (lit _ (by decide) (by decide)) (lit _ (by decide) (by decide)) ha
    · show v.toNat < 4; omega
    conv => whnf
    exact ⟨fin _ _ _ _ p1 p2 ⟨h1, h2⟩⟩
  conv => whnf
  exact ⟨fin _ _ _ _ p1 p2 p3⟩
theorem l07AnyTx_ok : FnOk Try.prog 155 (cDraw true txE txP) := fnOk_of fun x => fnX_at tab_ok (SOk.cons l01Below_ok (SOk.cons l07Tx_ok (SOk.cons l01Raw_ok SOk.nil))) mixed (fn := Try.f155) (code := body Try.f155) ⟨Try.func155, rfl, by kernel_rfl, by kernel_rfl, by kernel_rfl, by kernel_rfl⟩ (ev_l07AnyTx x)
structure AskLX where
  x : LocksX
  y : LockX
  h1 : x.held.length ≤ 1048576
  h2 : x.wait.length ≤ 1048576
def LocksX.n (x : LocksX) : Nat := x.held.length + x.wait.length
def cLockAsk : Con := relC AskLX [(.rd, true), (.rd, true)] [true, false] (fun x => [x.x.ds, x.y.ds]) (fun x r => ∃ (z : LocksX) (k : Int), r = [z.ds, [.lf (.int .i64 k)]] ∧ z.n ≤ x.x.n + 1)
theorem ev_l07Copy : ∀ x, evFnX tab [] (pureC FreeX [(.rd, true)] [true] (fun x => [x.x.ds]) (fun x => [x.x.ds])) Try.f167 (body Try.f167) x := by
  rintro ⟨⟨l, m⟩, x, hl, hm⟩
  replace hl : l.length ≤ 1048576 := hl
  replace hm : m.length ≤ 1048576 := hm
  have s1 : ([] : List LockX).length + l.length ≤ 4294967296 := by simp; omega
  have s2 : ([] : List LockX).length + m.length ≤ 4294967296 := by simp; omega
  repeat' ((conv => whnf); first
    | refine rc_i rfl ?_
    | refine ⟨true, ?_⟩
    | refine ⟨LockX, LockX.ds, [], fun _ => rfl, rfl, ?_⟩
    | refine ⟨fun _ => rfl, l, rfl, s1, ?_⟩
    | refine ⟨fun _ => rfl, m, rfl, s2, ?_⟩
    | exact ⟨⟨rfl, rfl⟩⟩
    | refine ⟨?_, ?_⟩)
theorem l07Copy_ok : FnOk Try.prog 167 (pureC FreeX [(.rd, true)] [true] (fun x => [x.x.ds]) (fun x => [x.x.ds])) := fnOk_of fun x => fnX_at tab_ok (SOk.nil) mixed (fn := Try.f167) (code := body Try.f167) ⟨Try.func167, rfl, by kernel_rfl, by kernel_rfl, by kernel_rfl, by kernel_rfl⟩ (ev_l07Copy x)
theorem ev_sLockAsk : ∀ x, evFnX tab [(28, cLocksOk), (82, (pureC LockX [(.rd, true)] [false] (fun x => [x.ds]) (fun x => [[.lf (.bool (lockOkB x))]]))), (84, (pureC (LocksX × TxX) [(.rd, true), (.rd, true)] [false] (fun x => [x.1.ds, x.2.ds]) (fun x => [[.lf (.bool (waitsB x.1.wait x.2))]]))), (167, (pureC FreeX [(.rd, true)] [true] (fun x => [x.x.ds]) (fun x => [x.x.ds]))), (83, cAny)] cLockAsk Try.f166 (body Try.f166) x := by
  rintro ⟨⟨l, m⟩, y, hl, hm⟩
  replace hl : l.length ≤ 1048576 := hl
  replace hm : m.length ≤ 1048576 := hm
  have no : ∀ k : Int, ∃ (z : LocksX) (q : Int), [[D.row 6 LockX.ds [], D.row 6 LockX.ds []], [D.lf (.int .i64 k)]] = [z.ds, [D.lf (.int .i64 q)]] ∧ z.n ≤ (⟨l, m⟩ : LocksX).n + 1 := fun k => ⟨⟨[], []⟩, k, rfl, by simp [LocksX.n]⟩
  have s1 : l.length + ([y] : List LockX).length ≤ 4294967296 := by simp; omega
  have s2 : m.length + ([y] : List LockX).length ≤ 4294967296 := by simp; omega
  have y1 : (⟨l ++ [y], m⟩ : LocksX).n ≤ (⟨l, m⟩ : LocksX).n + 1 := by simp [LocksX.n]; omega
  have y2 : (⟨l, m ++ [y]⟩ : LocksX).n ≤ (⟨l, m⟩ : LocksX).n + 1 := by simp [LocksX.n]; omega
  conv => whnf
  refine ⟨⟨l, m⟩, rfl, ?_⟩
  rintro _ _ ⟨rfl, b, rfl, e1⟩
  conv => whnf
  repeat' ((conv => whnf); first
    | refine br2 (fun _ => ?_) (fun _ => ?_)
    | intro _
    | (refine ⟨y, rfl, ?_⟩; rintro _ _ ⟨rfl, rfl⟩)
    | (refine ⟨(⟨l, m⟩, y.tx), rfl, ?_⟩; rintro _ _ ⟨rfl, rfl⟩)
    | (refine ⟨⟨⟨l, m⟩, y.tx, hl, hm⟩, rfl, ?_⟩; rintro _ _ ⟨rfl, rfl⟩)
    | (refine ⟨(l, y), rfl, ?_⟩; rintro _ _ ⟨rfl, rfl⟩)
    | (refine ⟨(m, y), rfl, ?_⟩; rintro _ _ ⟨rfl, rfl⟩)
    | refine ⟨6, LockX, LockX.ds, fun _ => rfl, ?_⟩
    | refine ⟨[y], rfl, s1, ?_⟩
    | refine ⟨[y], rfl, s2, ?_⟩
    | exact ⟨⟨rfl, no _⟩⟩
    | exact ⟨⟨rfl, ⟨l ++ [y], m⟩, _, rfl, y1⟩⟩
    | exact ⟨⟨rfl, ⟨l, m ++ [y]⟩, _, rfl, y2⟩⟩)
theorem sLockAsk_ok : FnOk Try.prog 166 cLockAsk := fnOk_of fun x => fnX_at tab_ok (SOk.cons sLocksOk_ok (SOk.cons sLockOk_ok (SOk.cons sWaits_ok (SOk.cons l07Copy_ok (SOk.cons sAny_ok SOk.nil))))) mixed (fn := Try.f166) (code := body Try.f166) ⟨Try.func166, rfl, by kernel_rfl, by kernel_rfl, by kernel_rfl, by kernel_rfl⟩ (ev_sLockAsk x)
def locksP (k : Nat) (x : LocksX) : Prop := x.n ≤ k
def nm (d : Nat) : Nat := 16 * (300000 + 8 * d)
def curH (t C : Nat) (c : CurX) : Hp := [(C, some (.row .ro 1 encB c.b)), (t, some (.arr true 3 [[.sl C none, .lf (.int .i64 c.i), .lf (.int .i64 c.h)]]))]
theorem ev_l07Draw : ∀ x, evFnX tab [(1000002, cGh), (120, cBelow), (119, (cDraw true txE txP)), (154, (cDraw true lockE lockP)), (53, cLockFree), (166, cLockAsk)] (cDraw true locksE (locksP 20)) Try.f153 (body Try.f153) x := by
  intro c
  conv => whnf
  refine ⟨[.nlc 48 0 0 100, .nlc 48 0 1 101], ?_⟩
  conv => whnf
  refine ⟨6, LockX, LockX.ds, fun _ => rfl, ?_⟩
  conv => whnf
  refine ⟨6, LockX, LockX.ds, fun _ => rfl, ?_⟩
  conv => whnf
  refine useBelow (c := c) (n := 9) rfl (by decide) fun c k k1 k2 _ => ?_
  replace k2 : k < 9 := k2 (by decide)
  conv => whnf
  let S (k : Int) : Sl := [(4, .lf (.int .i64 k)), (3, .pt 48 0 0), (2, .pt 32 0 0), (1000000, .pt 0 0 0), (0, .pt 0 0 0)]
  let H (c : CurX) (x : LocksX) : Hp := [(3200, some (.row .ro 1 encB c.b)), (0, some (.arr true 3 [[.sl 3200 none, .lf (.int .i64 c.i), .lf (.int .i64 c.h)]])), (3216, some (.row .own 6 LockX.ds x.held)), (3232, some (.row .own 6 LockX.ds x.wait)),
    (48, some (.arr true 2 [[.sl 3216 none, .sl 3232 none]])), (32, some (.arr true 2 [[.lf (.slice none 0 0), .lf (.slice none 0 0)]]))]
  refine ⟨fun m s h => ∃ (c : CurX) (k : Int) (x : LocksX), 0 ≤ k ∧ k ≤ 8 ∧ x.n + k ≤ 9 ∧ m = k.toNat ∧ s = S k ∧ h = H c x,
    k.toNat, [(4801152, 3200), (0, 0), (1600, 3216), (1616, 3232), (48, 48), (32, 32)], S k, H c ⟨[], []⟩, ⟨rfl, ⟨rfl, rfl, rfl, rfl, rfl, trivial⟩, rfl, rfl, rfl, rfl, rfl, rfl, trivial⟩, ⟨c, k, ⟨[], []⟩, k1, by omega, by simp [LocksX.n]; omega, rfl, rfl, rfl⟩, ?_⟩
  rintro m _ _ ⟨c, k, x, g1, g2, g3, rfl, rfl, rfl⟩
  obtain ⟨l, w⟩ := x
  have hn : l.length + w.length + k ≤ 9 := g3
  conv => whnf
  refine br2 (fun h0 => ?_) (fun h0 => ?_)
  · have h0' : k > 0 := of_decide_eq_true h0
    have hw : V.lf (.int .i64 (IntKind.i64.wrap (k - 1))) = V.lf (.int .i64 (k - 1)) := by rw [w64 (by omega) (by omega)]
    conv => whnf
    refine useBelow (c := c) (n := 5) rfl (by decide) fun c v a1 a2 _ => ?_
    conv => whnf
    refine br2 (fun h1 => ?_) (fun h1 => ?_)
    · conv => whnf
      repeat (refine rc_i rfl ?_; conv => whnf)
      refine useDraw (c := c) rfl fun c t _ => ?_
      conv => whnf
      repeat (refine rc_i rfl ?_; conv => whnf)
      refine ⟨⟨⟨l, w⟩, t, show l.length ≤ 1048576 by omega, show w.length ≤ 1048576 by omega⟩, rfl, ?_⟩
      rintro _ _ ⟨rfl, y, g, rfl, e1⟩
      have hy : y.held.length + y.wait.length ≤ l.length + w.length := e1.len.1
      conv => whnf
      repeat (refine rc_i rfl ?_; conv => whnf)
      refine ⟨(k - 1).toNat, [(nm 20, 3200), (0, 0), (336, 3216), (337, 3232), (48, 48), (32, 32)], S (k - 1), H c y, by omega, ⟨rfl, ⟨hw, rfl, rfl, rfl, rfl, trivial⟩, rfl, rfl, rfl, rfl, rfl, rfl, trivial⟩, c, k - 1, y, by omega, by omega, by show ((y.held.length + y.wait.length : Nat) : Int) + (k - 1) ≤ 9; omega, rfl, rfl, rfl⟩
    · conv => whnf
      repeat (refine rc_i rfl ?_; conv => whnf)
      refine useDraw (c := c) rfl fun c t _ => ?_
      conv => whnf
      repeat (refine rc_i rfl ?_; conv => whnf)
      refine ⟨⟨⟨l, w⟩, t, show l.length ≤ 1048576 by omega, show w.length ≤ 1048576 by omega⟩, rfl, ?_⟩
      rintro _ _ ⟨rfl, z, q, rfl, e1⟩
      have hy : z.held.length + z.wait.length ≤ l.length + w.length + 1 := e1
      conv => whnf
      repeat (refine rc_i rfl ?_; conv => whnf)
      have done1 : ∀ {s : Sl} {h : Hp}, Le [(nm 27, 3200), (0, 0), (448, 3216), (449, 3232), (48, 48), (32, 32)] (S (k - 1)) (H c z) s h → ∃ m' ρ s'' h'', m' < k.toNat ∧ Le ρ s'' h'' s h ∧ ∃ (c : CurX) (k : Int) (x : LocksX), 0 ≤ k ∧ k ≤ 8 ∧ x.n + k ≤ 9 ∧ m' = k.toNat ∧ s'' = S k ∧ h'' = H c x := fun hle =>
        ⟨(k - 1).toNat, _, _, _, by omega, hle, c, k - 1, z, by omega, by omega, by show ((z.held.length + z.wait.length : Nat) : Int) + (k - 1) ≤ 9; omega, rfl, rfl, rfl⟩
      have done2 : ∀ {s : Sl} {h : Hp}, Le [(nm 27, 3200), (0, 0), (3216, 3216), (3232, 3232), (48, 48), (32, 32)] (S (k - 1)) (H c ⟨l, w⟩) s h → ∃ m' ρ s'' h'', m' < k.toNat ∧ Le ρ s'' h'' s h ∧ ∃ (c : CurX) (k : Int) (x : LocksX), 0 ≤ k ∧ k ≤ 8 ∧ x.n + k ≤ 9 ∧ m' = k.toNat ∧ s'' = S k ∧ h'' = H c x := fun hle =>
        ⟨(k - 1).toNat, _, _, _, by omega, hle, c, k - 1, ⟨l, w⟩, by omega, by omega, by show ((l.length + w.length : Nat) : Int) + (k - 1) ≤ 9; omega, rfl, rfl, rfl⟩
      refine br2 (fun h2 => ?_) (fun h2 => ?_)
      · conv => whnf
        exact done1 ⟨rfl, ⟨hw, rfl, rfl, rfl, rfl, trivial⟩, rfl, rfl, rfl, rfl, rfl, rfl, trivial⟩
      conv => whnf
      refine br2 (fun h2 => ?_) (fun h2 => ?_)
      · conv => whnf
        exact done1 ⟨rfl, ⟨hw, rfl, rfl, rfl, rfl, trivial⟩, rfl, rfl, rfl, rfl, rfl, rfl, trivial⟩
      · conv => whnf
        exact done2 ⟨rfl, ⟨hw, rfl, rfl, rfl, rfl, trivial⟩, rfl, rfl, rfl, rfl, rfl, rfl, trivial⟩
  · conv => whnf
    exact ⟨⟨c, ⟨l, w⟩, rfl, rfl, show l.length + w.length ≤ 20 by omega⟩⟩
theorem l07Draw_ok : FnOk Try.prog 153 (cDraw true locksE (locksP 20)) := fnOk_of fun x => fnX_at tab_ok (SOk.cons gh_ok (SOk.cons l01Below_ok (SOk.cons l07Tx_ok (SOk.cons l07Lock_ok (SOk.cons sLockFree_ok (SOk.cons sLockAsk_ok SOk.nil)))))) mixed (fn := Try.f153) (code := body Try.f153) ⟨Try.func153, rfl, by kernel_rfl, by kernel_rfl, by kernel_rfl, by kernel_rfl⟩ (ev_l07Draw x)
end Go.Vm
namespace Go.Vm
open Go.Proofs
set_option maxRecDepth 100000
set_option linter.unusedVariables false
set_option linter.unusedSimpArgs false

theorem ev_l07AnyLocks : ∀ x, evFnX tab [(1000013, cGh), (120, cBelow), (119, (cDraw true txE txP)), (155, (cDraw true txE txP)), (121, (cDraw true rngE (rngP 17))), (62, (cDraw true rngE (rngP 20))), (153, (cDraw true locksE (locksP 20))), (154, (cDraw true lockE lockP))] (cDraw true locksE (locksP 100)) Try.f118 (body Try.f118) x := by
  intro c
  conv => whnf
  refine useDraw (c := c) rfl fun c x hx => ?_
  obtain ⟨l, w⟩ := x
  replace hx : l.length + w.length ≤ 20 := hx
  conv => whnf
  refine useBelow (c := c) (n := 12) rfl (by decide) fun c k k1 k2 _ => ?_
  conv => whnf
  have fin : ∀ (c : CurX) (l w : List LockX), l.length + w.length ≤ 100 → ∃ (c' : CurX) (r : LocksX), [[c.d]] = [[c'.d]] ∧ [[D.row 6 LockX.ds l, D.row 6 LockX.ds w]] = [locksE r] ∧ locksP 100 r := fun c l w h => ⟨c, ⟨l, w⟩, rfl, rfl, h⟩
  have q : ∀ {a b : Int}, (a == b) = true → a = b := fun h => eq_of_beq h
  refine br2 (fun h0 => ?_) (fun h0 => ?_)
  · obtain rfl := q h0
    conv => whnf
    intro h9
    replace h9 : l.length ≤ 9223372036854775807 := h9
    conv => whnf
    refine br2 (fun h1 => ?_) (fun h1 => ?_)
    · have h1' : 0 < l.length := by
        have h2 : ((l.length : Nat) : Int) > 0 := of_decide_eq_true h1
        omega
      obtain ⟨y, m, rfl⟩ : ∃ y m, l = y :: m := by cases l with | nil => simp at h1' | cons y m => exact ⟨y, m, rfl⟩
      conv => whnf
      repeat (refine rc_i rfl ?_; conv => whnf)
      refine useDraw (c := c) rfl fun c r _ => ?_
      conv => whnf
      repeat (refine rc_i rfl ?_; conv => whnf)
      refine ⟨Int.le_refl _, (show (0 : Int) < ((y :: m).length : Nat) by omega), ?_⟩
      conv => whnf
      repeat (refine rc_i rfl ?_; conv => whnf)
      refine ⟨⟨y.tx, r, y.ex⟩, rfl, ?_⟩
      conv => whnf
      repeat (refine rc_i rfl ?_; conv => whnf)
      exact ⟨fin c (⟨y.tx, r, y.ex⟩ :: m) w (show m.length + 1 + w.length ≤ 100 by simp at hx; omega)⟩
    · conv => whnf
      exact ⟨fin c l w (by omega)⟩
  conv => whnf
  refine br2 (fun h0 => ?_) (fun h0 => ?_)
  · obtain rfl := q h0
    conv => whnf
    repeat (refine rc_i rfl ?_; conv => whnf)
    refine useDraw (c := c) rfl fun c r _ => ?_
    conv => whnf
    repeat (refine rc_i rfl ?_; conv => whnf)
    refine ⟨[r], rfl, (show l.length + 1 ≤ 4294967296 by omega), ?_⟩
    conv => whnf
    repeat (refine rc_i rfl ?_; conv => whnf)
    exact ⟨fin c (l ++ [r]) w (by simp; omega)⟩
  conv => whnf
  refine br2 (fun h0 => ?_) (fun h0 => ?_)
  · obtain rfl := q h0
    conv => whnf
    repeat (refine rc_i rfl ?_; conv => whnf)
    refine useDraw (c := c) rfl fun c r _ => ?_
    conv => whnf
    repeat (refine rc_i rfl ?_; conv => whnf)
    refine ⟨[r], rfl, (show w.length + 1 ≤ 4294967296 by omega), ?_⟩
    conv => whnf
    repeat (refine rc_i rfl ?_; conv => whnf)
    exact ⟨fin c l (w ++ [r]) (by simp; omega)⟩
  conv => whnf
  refine br2 (fun h0 => ?_) (fun h0 => ?_)
  · obtain rfl := q h0
    conv => whnf
    intro h9
    replace h9 : w.length ≤ 9223372036854775807 := h9
    conv => whnf
    refine br2 (fun h1 => ?_) (fun h1 => ?_)
    · have h1' : 0 < w.length := by
        have h2 : ((w.length : Nat) : Int) > 0 := of_decide_eq_true h1
        omega
      obtain ⟨y, m, rfl⟩ : ∃ y m, w = y :: m := by cases w with | nil => simp at h1' | cons y m => exact ⟨y, m, rfl⟩
      conv => whnf
      repeat (refine rc_i rfl ?_; conv => whnf)
      refine useDraw (c := c) rfl fun c r _ => ?_
      conv => whnf
      repeat (refine rc_i rfl ?_; conv => whnf)
      refine ⟨Int.le_refl _, (show (0 : Int) < ((y :: m).length : Nat) by omega), ?_⟩
      conv => whnf
      repeat (refine rc_i rfl ?_; conv => whnf)
      refine ⟨⟨r, y.rng, y.ex⟩, rfl, ?_⟩
      conv => whnf
      repeat (refine rc_i rfl ?_; conv => whnf)
      exact ⟨fin c l (⟨r, y.rng, y.ex⟩ :: m) (show l.length + (m.length + 1) ≤ 100 by simp at hx; omega)⟩
    · conv => whnf
      exact ⟨fin c l w (by omega)⟩
  conv => whnf
  refine br2 (fun h0 => ?_) (fun h0 => ?_)
  · obtain rfl := q h0
    conv => whnf
    refine ⟨[.nlc 48 0 0 100, .nlc 48 0 1 101], ?_⟩
    conv => whnf
    refine ⟨6, LockX, LockX.ds, fun _ => rfl, ?_⟩
    conv => whnf
    refine ⟨6, LockX, LockX.ds, fun _ => rfl, ?_⟩
    conv => whnf
    let S (k : Int) : Sl := [(5, .lf (.int .i64 k)), (3, .pt 48 0 0), (2, .pt 32 0 0), (1000000, .pt 0 0 0), (0, .pt 0 0 0)]
    let H (c : CurX) (l : List LockX) : Hp := [(3200, some (.row .ro 1 encB c.b)), (0, some (.arr true 3 [[.sl 3200 none, .lf (.int .i64 c.i), .lf (.int .i64 c.h)]])), (1600, some (.row .own 6 LockX.ds l)), (1616, some (.row .own 6 LockX.ds [])),
      (48, some (.arr true 2 [[.sl 1600 none, .sl 1616 none]])), (32, some (.arr true 2 [[.lf (.slice none 0 0), .lf (.slice none 0 0)]]))]
    refine ⟨fun m s h => ∃ (c : CurX) (i : Nat) (l : List LockX), i ≤ 61 ∧ l.length = i ∧ m = 61 - i ∧ s = S i ∧ h = H c l,
      61, [(nm 9, 3200), (0, 0), (1600, 1600), (1616, 1616), (48, 48), (32, 32)], S ((0 : Nat) : Int), H c [], ⟨rfl, ⟨rfl, rfl, rfl, rfl, rfl, trivial⟩, rfl, rfl, rfl, rfl, rfl, rfl, trivial⟩, ⟨c, 0, [], by omega, rfl, rfl, rfl, rfl⟩, ?_⟩
    rintro m _ _ ⟨c, i, l, g1, g2, rfl, rfl, rfl⟩
    conv => whnf
    refine useBelow (c := c) (n := 3) rfl (by decide) fun c v a1 a2 _ => ?_
    replace a2 : v < 3 := a2 (by decide)
    conv => whnf
    refine br2 (fun h1 => ?_) (fun h1 => ?_)
    · have h2 : (i : Int) < IntKind.i64.wrap (59 + v) := of_decide_eq_true h1
      rw [w64 (by omega) (by omega)] at h2
      conv => whnf
      repeat (refine rc_i rfl ?_; conv => whnf)
      refine useDraw (c := c) rfl fun c t _ => ?_
      conv => whnf
      repeat (refine rc_i rfl ?_; conv => whnf)
      refine useDraw (c := c) rfl fun c r _ => ?_
      conv => whnf
      repeat (refine rc_i rfl ?_; conv => whnf)
      refine ⟨[⟨t, r, false⟩], rfl, (show l.length + 1 ≤ 4294967296 by omega), ?_⟩
      conv => whnf
      have hw : V.lf (.int .i64 (IntKind.i64.wrap ((i : Int) + 1))) = V.lf (.int .i64 ((i + 1 : Nat) : Int)) := by rw [w64 (by omega) (by omega)]; rfl
      refine ⟨61 - (i + 1), [(nm 71, 3200), (0, 0), (1184, 1600), (1616, 1616), (48, 48), (32, 32)], S ((i + 1 : Nat) : Int), H c (l ++ [⟨t, r, false⟩]), by omega, ⟨rfl, ⟨hw, rfl, rfl, rfl, rfl, trivial⟩, rfl, rfl, (by (conv => whnf); exact ⟨by rfl, rfl, rfl, rfl, trivial⟩)⟩, c, i + 1, l ++ [⟨t, r, false⟩], by omega, by simp; omega, rfl, rfl, rfl⟩
    · conv => whnf
      exact ⟨fin c l [] (by simp; omega)⟩
  · conv => whnf
    exact ⟨fin c l w (by omega)⟩
theorem l07AnyLocks_ok : FnOk Try.prog 118 (cDraw true locksE (locksP 100)) := fnOk_of fun x => fnX_at tab_ok (SOk.cons gh_ok (SOk.cons l01Below_ok (SOk.cons l07Tx_ok (SOk.cons l07AnyTx_ok (SOk.cons l02Range_ok (SOk.cons l02AnyRange_ok (SOk.cons l07Draw_ok (SOk.cons l07Lock_ok SOk.nil)))))))) mixed (fn := Try.f118) (code := body Try.f118) ⟨Try.func118, rfl, by kernel_rfl, by kernel_rfl, by kernel_rfl, by kernel_rfl⟩ (ev_l07AnyLocks x)
def cDrawLF : Con := { X := CodeX, params := [(.keep, false)], res := [true, true], resOwn := true, ins := fun c => [[.row 1 encB c.b]], post := fun _ outs r => outs = [] ∧ ∃ (x : LocksX) (t : TxX), locksP 100 x ∧ r = [x.ds, t.ds] }
theorem ev_DrawLockFree : ∀ x, evFnX tab [(61, cNew), (120, cBelow), (119, (cDraw true txE txP)), (118, (cDraw true locksE (locksP 100)))] cDrawLF Try.f60 (body Try.f60) x := by
  rintro ⟨b, hb⟩
  conv => whnf
  refine ⟨⟨b, hb⟩, rfl, ?_⟩
  rintro _ _ ⟨rfl, c, rfl⟩
  conv => whnf
  refine useDraw (c := c) rfl fun c x hx => ?_
  obtain ⟨l, w⟩ := x
  replace hx : l.length + w.length ≤ 100 := hx
  conv => whnf
  refine useDraw (c := c) rfl fun c t _ => ?_
  conv => whnf
  have fin : ∀ t : TxX, ([] : List (List D)) = [] ∧ ∃ (y : LocksX) (u : TxX), locksP 100 y ∧ [[D.row 6 LockX.ds l, D.row 6 LockX.ds w], t.ds] = [y.ds, u.ds] := fun t => ⟨rfl, ⟨l, w⟩, t, hx, rfl⟩
  intro h9
  replace h9 : l.length ≤ 9223372036854775807 := h9
  conv => whnf
  refine br2 (fun h1 => ?_) (fun h1 => ?_)
  · have h1' : 0 < l.length := by
      have h2 : ((l.length : Nat) : Int) > 0 := of_decide_eq_true h1
      omega
    conv => whnf
    refine useBelow (c := c) (n := 2) rfl (by decide) fun c v a1 a2 _ => ?_
    conv => whnf
    refine br2 (fun h2 => ?_) (fun h2 => ?_)
    · conv => whnf
      repeat (refine rc_i rfl ?_; conv => whnf)
      intro h8
      conv => whnf
      repeat (refine rc_i rfl ?_; conv => whnf)
      refine useBelow (c := c) (n := (l.length : Int)) rfl (by omega) fun c i i1 i2 _ => ?_
      replace i2 : i < (l.length : Int) := i2 (by omega)
      conv => whnf
      repeat (refine rc_i rfl ?_; conv => whnf)
      refine ⟨i1, i2, ?_⟩
      obtain ⟨y, hy⟩ : ∃ y, l[i.toNat]? = some y := ⟨_, List.getElem?_eq_getElem (by omega)⟩
      have hy2 : nth l i.toNat = some y := by rw [nth_eq]; exact hy
      conv => whnf
      refine ex2 y hy2 ?_
      conv => whnf
      repeat (refine rc_i rfl ?_; conv => whnf)
      exact ⟨fin y.tx⟩
    · conv => whnf
      repeat (refine rc_i rfl ?_; conv => whnf)
      exact ⟨fin _⟩
  · conv => whnf
    repeat (refine rc_i rfl ?_; conv => whnf)
    exact ⟨fin _⟩
theorem DrawLockFree_ok : FnOk Try.prog 60 cDrawLF := fnOk_of fun x => fnX_at tab_ok (SOk.cons l01New_ok (SOk.cons l01Below_ok (SOk.cons l07Tx_ok (SOk.cons l07AnyLocks_ok SOk.nil)))) mixed (fn := Try.f60) (code := body Try.f60) ⟨Try.func60, rfl, by kernel_rfl, by kernel_rfl, by kernel_rfl, by kernel_rfl⟩ (ev_DrawLockFree x)
end Go.Vm
namespace Go.Vm
open Go.Proofs
set_option maxRecDepth 100000
set_option linter.unusedVariables false
set_option linter.unusedSimpArgs false

/-- A record's bytes. -/
def recB (r : RecX) : List UInt8 :=
  if r.kind = 1 then 119 :: (encT r.key ++ encT r.val)
  else if r.kind = 2 then 103 :: encT r.key
  else if r.kind = 3 then 115 :: (encT r.lo ++ encT r.hi)
  else 120 :: (encT r.lo ++ encT r.hi)
def recT (r : RecX) : ByteArray := if recOkB r then ofB (recB r) else ⟨#[]⟩
def cRecText : Con := pureC RecX [(.rd, true)] [false] (fun r => [r.ds]) (fun r => [[.lf (.string (recT r))]])

theorem recOk_1 {r : RecX} (h : recOkB r = true) (h1 : r.kind = 1) : r.key.size ≤ 8 ∧ r.val.size ≤ 20 := by
  simp [recOkB, h1, userOkB, uvalOkB] at h; omega
theorem recOk_2 {r : RecX} (h : recOkB r = true) (h1 : r.kind = 2) : r.key.size ≤ 8 := by
  simp [recOkB, h1, userOkB] at h; omega
theorem recOk_34 {r : RecX} (h : recOkB r = true) (h1 : ¬ r.kind = 1) (h2 : ¬ r.kind = 2) : (r.kind = 3 ∨ r.kind = 4) ∧ r.lo.size ≤ 9 ∧ r.hi.size ≤ 9 := by
  simp only [recOkB, if_neg h1, if_neg h2] at h
  split at h
  · rename_i h3
    simp [reachOkB] at h
    exact ⟨h3, by omega, by omega⟩
  · cases h

theorem ev_iRecText : ∀ x, evFn tab [(74, cRecOk), (98, cText)] cRecText Try.f46 (body Try.f46) x := by
  rintro ⟨kind, key, val, lo, hi⟩
  conv => whnf
  refine ⟨⟨kind, key, val, lo, hi⟩, rfl, ?_⟩
  rintro _ _ ⟨rfl, rfl⟩
  conv => whnf
  refine br2 (fun h1 => ?_) (fun h1 => ?_)
  · conv => whnf
    refine ⟨⟨rfl, ?_⟩⟩
    have h1' : recOkB ⟨kind, key, val, lo, hi⟩ = false := by simpa using h1
    show _ = [[D.lf (.string (recT ⟨kind, key, val, lo, hi⟩))]]
    simp [recT, h1']
  have h1' : recOkB ⟨kind, key, val, lo, hi⟩ = true := by simpa using h1
  conv => whnf
  refine br2 (fun h2 => ?_) (fun h2 => ?_)
  · have h2' : kind = 1 := by simpa using h2
    obtain ⟨q1, q2⟩ : key.size ≤ 8 ∧ val.size ≤ 20 := recOk_1 h1' h2'
    conv => whnf
    repeat (refine ⟨rfl, ?_⟩; conv => whnf)
    refine ⟨UInt8, encB, [119], encB_len, rfl, ?_⟩
    conv => whnf
    refine ⟨⟨[119], key, by simp, by omega⟩, rfl, ?_⟩
    rintro _ _ ⟨rfl, rfl⟩
    conv => whnf
    repeat (refine ⟨rfl, ?_⟩; conv => whnf)
    refine ⟨⟨[119] ++ encT key, val, ?_, by omega⟩, rfl, ?_⟩
    · have := varB_len (n := key.size) (by omega)
      simp [encT, bs_len]; omega
    rintro _ _ ⟨rfl, rfl⟩
    conv => whnf
    repeat (refine ⟨rfl, ?_⟩; conv => whnf)
    refine ⟨[119] ++ encT key ++ encT val, rfl, ?_⟩
    conv => whnf
    repeat (refine ⟨rfl, ?_⟩; conv => whnf)
    show [[D.lf (.string (ofB ([119] ++ encT key ++ encT val)))]] = [[D.lf (.string (recT ⟨kind, key, val, lo, hi⟩))]]
    rw [show recT ⟨kind, key, val, lo, hi⟩ = ofB (recB ⟨kind, key, val, lo, hi⟩) from if_pos h1']
    simp [recB, h2']
  have h2' : ¬ kind = 1 := by simpa using h2
  conv => whnf
  refine br2 (fun h3 => ?_) (fun h3 => ?_)
  · have h3' : kind = 2 := by simpa using h3
    have q1 : key.size ≤ 8 := recOk_2 h1' h3'
    conv => whnf
    refine ⟨UInt8, encB, [103], encB_len, rfl, ?_⟩
    conv => whnf
    refine ⟨⟨[103], key, by simp, by omega⟩, rfl, ?_⟩
    rintro _ _ ⟨rfl, rfl⟩
    conv => whnf
    refine ⟨[103] ++ encT key, rfl, ?_⟩
    conv => whnf
    refine ⟨⟨rfl, ?_⟩⟩
    show [[D.lf (.string (ofB ([103] ++ encT key)))]] = [[D.lf (.string (recT ⟨kind, key, val, lo, hi⟩))]]
    rw [show recT ⟨kind, key, val, lo, hi⟩ = ofB (recB ⟨kind, key, val, lo, hi⟩) from if_pos h1']
    simp [recB, h3']
  have h3' : ¬ kind = 2 := by simpa using h3
  obtain ⟨q0, q1, q2⟩ : (kind = 3 ∨ kind = 4) ∧ lo.size ≤ 9 ∧ hi.size ≤ 9 := recOk_34 h1' h2' h3'
  conv => whnf
  refine br2 (fun h4 => ?_) (fun h4 => ?_)
  · have h4' : kind = 3 := by simpa using h4
    conv => whnf
    repeat (refine ⟨rfl, ?_⟩; conv => whnf)
    refine ⟨UInt8, encB, [115], encB_len, rfl, ?_⟩
    conv => whnf
    refine ⟨⟨[115], lo, by simp, by omega⟩, rfl, ?_⟩
    rintro _ _ ⟨rfl, rfl⟩
    conv => whnf
    repeat (refine ⟨rfl, ?_⟩; conv => whnf)
    refine ⟨⟨[115] ++ encT lo, hi, ?_, by omega⟩, rfl, ?_⟩
    · have := varB_len (n := lo.size) (by omega)
      simp [encT, bs_len]; omega
    rintro _ _ ⟨rfl, rfl⟩
    conv => whnf
    repeat (refine ⟨rfl, ?_⟩; conv => whnf)
    refine ⟨[115] ++ encT lo ++ encT hi, rfl, ?_⟩
    conv => whnf
    repeat (refine ⟨rfl, ?_⟩; conv => whnf)
    show [[D.lf (.string (ofB ([115] ++ encT lo ++ encT hi)))]] = [[D.lf (.string (recT ⟨kind, key, val, lo, hi⟩))]]
    rw [show recT ⟨kind, key, val, lo, hi⟩ = ofB (recB ⟨kind, key, val, lo, hi⟩) from if_pos h1']
    simp [recB, h4']
  have h4' : ¬ kind = 3 := by simpa using h4
  conv => whnf
  repeat (refine ⟨rfl, ?_⟩; conv => whnf)
  refine ⟨UInt8, encB, [120], encB_len, rfl, ?_⟩
  conv => whnf
  refine ⟨⟨[120], lo, by simp, by omega⟩, rfl, ?_⟩
  rintro _ _ ⟨rfl, rfl⟩
  conv => whnf
  repeat (refine ⟨rfl, ?_⟩; conv => whnf)
  refine ⟨⟨[120] ++ encT lo, hi, ?_, by omega⟩, rfl, ?_⟩
  · have := varB_len (n := lo.size) (by omega)
    simp [encT, bs_len]; omega
  rintro _ _ ⟨rfl, rfl⟩
  conv => whnf
  repeat (refine ⟨rfl, ?_⟩; conv => whnf)
  refine ⟨[120] ++ encT lo ++ encT hi, rfl, ?_⟩
  conv => whnf
  repeat (refine ⟨rfl, ?_⟩; conv => whnf)
  show [[D.lf (.string (ofB ([120] ++ encT lo ++ encT hi)))]] = [[D.lf (.string (recT ⟨kind, key, val, lo, hi⟩))]]
  rw [show recT ⟨kind, key, val, lo, hi⟩ = ofB (recB ⟨kind, key, val, lo, hi⟩) from if_pos h1']
  simp [recB, h2', h3', h4']
theorem iRecText_ok : FnOk Try.prog 46 cRecText := fnOk_of fun x => fn_at tab_ok (SOk.cons iRecOk_ok (SOk.cons iText_ok SOk.nil)) mixed (fn := Try.f46) (code := body Try.f46) ⟨Try.func46, rfl, by kernel_rfl, by kernel_rfl, by kernel_rfl, by kernel_rfl⟩ (ev_iRecText x)
end Go.Vm
namespace Go.Vm
open Go.Proofs
set_option maxRecDepth 100000
set_option linter.unusedVariables false
set_option linter.unusedSimpArgs false

theorem encT_len (s : ByteArray) : (encT s).length = (varB s.size).length + s.size := by simp [encT, bs_len]
theorem putTL_eq {l : List UInt8} {s : ByteArray} (h : l.length + s.size ≤ 4000) : putTL l s = l ++ encT s := by
  have := varB_len (n := s.size) (by omega)
  unfold putTL putTB
  rw [if_pos (decide_eq_true (by rw [encT_len]; omega))]
theorem recOk_kind {r : RecX} (h : recOkB r = true) : r.kind = 1 ∨ r.kind = 2 ∨ r.kind = 3 ∨ r.kind = 4 := by
  by_cases h1 : r.kind = 1
  · exact .inl h1
  · by_cases h2 : r.kind = 2
    · exact .inr (.inl h2)
    · rcases (recOk_34 h h1 h2).1 with h3 | h3
      · exact .inr (.inr (.inl h3))
      · exact .inr (.inr (.inr h3))

theorem ev_sRecText : ∀ x, evFn tab [(47, cRecOk), (130, cPutText)] cRecText Try.f78 (body Try.f78) x := by
  rintro ⟨kind, key, val, lo, hi⟩
  conv => whnf
  refine ⟨⟨kind, key, val, lo, hi⟩, rfl, ?_⟩
  rintro _ _ ⟨rfl, rfl⟩
  conv => whnf
  refine br2 (fun h1 => ?_) (fun h1 => ?_)
  · conv => whnf
    refine ⟨⟨rfl, ?_⟩⟩
    have h1' : recOkB ⟨kind, key, val, lo, hi⟩ = false := by simpa using h1
    show _ = [[D.lf (.string (recT ⟨kind, key, val, lo, hi⟩))]]
    simp [recT, h1']
  have h1' : recOkB ⟨kind, key, val, lo, hi⟩ = true := by simpa using h1
  rcases (recOk_kind h1' : kind = 1 ∨ kind = 2 ∨ kind = 3 ∨ kind = 4) with rfl | rfl | rfl | rfl
  · obtain ⟨q1, q2⟩ : key.size ≤ 8 ∧ val.size ≤ 20 := recOk_1 h1' rfl
    have e1 : putTL [119] key = [119] ++ encT key := putTL_eq (by simp; omega)
    have l1 := varB_len (n := key.size) (by omega)
    have e2 : putTL ([119] ++ encT key) val = [119] ++ encT key ++ encT val := putTL_eq (by simp [encT_len]; omega)
    conv => whnf
    refine ⟨(by show (0 : Int) ≤ 1; decide), (by show (1 : Int) < 5; decide), ?_⟩
    conv => whnf
    refine ⟨UInt8, encB, [119], encB_len, rfl, ?_⟩
    conv => whnf
    refine ⟨⟨[119], key, by simp, by omega⟩, rfl, ?_⟩
    rintro _ _ ⟨rfl, rfl⟩
    conv => whnf
    refine ⟨⟨putTL [119] key, val, by rw [e1]; simp [encT_len]; omega, by omega⟩, rfl, ?_⟩
    rintro _ _ ⟨rfl, rfl⟩
    conv => whnf
    refine ⟨putTL (putTL [119] key) val, rfl, ?_⟩
    conv => whnf
    refine ⟨⟨rfl, ?_⟩⟩
    show [[D.lf (.string (ofB (putTL (putTL [119] key) val)))]] = [[D.lf (.string (recT ⟨1, key, val, lo, hi⟩))]]
    rw [e1, e2, show recT ⟨1, key, val, lo, hi⟩ = ofB (recB ⟨1, key, val, lo, hi⟩) from if_pos h1']
    simp [recB]
  · have q1 : key.size ≤ 8 := recOk_2 h1' rfl
    have e1 : putTL [103] key = [103] ++ encT key := putTL_eq (by simp; omega)
    conv => whnf
    refine ⟨(by show (0 : Int) ≤ 2; decide), (by show (2 : Int) < 5; decide), ?_⟩
    conv => whnf
    refine ⟨UInt8, encB, [103], encB_len, rfl, ?_⟩
    conv => whnf
    refine ⟨⟨[103], key, by simp, by omega⟩, rfl, ?_⟩
    rintro _ _ ⟨rfl, rfl⟩
    conv => whnf
    refine ⟨putTL [103] key, rfl, ?_⟩
    conv => whnf
    refine ⟨⟨rfl, ?_⟩⟩
    show [[D.lf (.string (ofB (putTL [103] key)))]] = [[D.lf (.string (recT ⟨2, key, val, lo, hi⟩))]]
    rw [e1, show recT ⟨2, key, val, lo, hi⟩ = ofB (recB ⟨2, key, val, lo, hi⟩) from if_pos h1']
    simp [recB]
  · obtain ⟨_, q1, q2⟩ : (_ ∨ _) ∧ lo.size ≤ 9 ∧ hi.size ≤ 9 := recOk_34 h1' (by simp) (by simp)
    have e1 : putTL [115] lo = [115] ++ encT lo := putTL_eq (by simp; omega)
    have l1 := varB_len (n := lo.size) (by omega)
    have e2 : putTL ([115] ++ encT lo) hi = [115] ++ encT lo ++ encT hi := putTL_eq (by simp [encT_len]; omega)
    conv => whnf
    refine ⟨(by show (0 : Int) ≤ 3; decide), (by show (3 : Int) < 5; decide), ?_⟩
    conv => whnf
    refine ⟨UInt8, encB, [115], encB_len, rfl, ?_⟩
    conv => whnf
    refine ⟨⟨[115], lo, by simp, by omega⟩, rfl, ?_⟩
    rintro _ _ ⟨rfl, rfl⟩
    conv => whnf
    refine ⟨⟨putTL [115] lo, hi, by rw [e1]; simp [encT_len]; omega, by omega⟩, rfl, ?_⟩
    rintro _ _ ⟨rfl, rfl⟩
    conv => whnf
    refine ⟨putTL (putTL [115] lo) hi, rfl, ?_⟩
    conv => whnf
    refine ⟨⟨rfl, ?_⟩⟩
    show [[D.lf (.string (ofB (putTL (putTL [115] lo) hi)))]] = [[D.lf (.string (recT ⟨3, key, val, lo, hi⟩))]]
    rw [e1, e2, show recT ⟨3, key, val, lo, hi⟩ = ofB (recB ⟨3, key, val, lo, hi⟩) from if_pos h1']
    simp [recB]
  · obtain ⟨_, q1, q2⟩ : (_ ∨ _) ∧ lo.size ≤ 9 ∧ hi.size ≤ 9 := recOk_34 h1' (by simp) (by simp)
    have e1 : putTL [120] lo = [120] ++ encT lo := putTL_eq (by simp; omega)
    have l1 := varB_len (n := lo.size) (by omega)
    have e2 : putTL ([120] ++ encT lo) hi = [120] ++ encT lo ++ encT hi := putTL_eq (by simp [encT_len]; omega)
    conv => whnf
    refine ⟨(by show (0 : Int) ≤ 4; decide), (by show (4 : Int) < 5; decide), ?_⟩
    conv => whnf
    refine ⟨UInt8, encB, [120], encB_len, rfl, ?_⟩
    conv => whnf
    refine ⟨⟨[120], lo, by simp, by omega⟩, rfl, ?_⟩
    rintro _ _ ⟨rfl, rfl⟩
    conv => whnf
    refine ⟨⟨putTL [120] lo, hi, by rw [e1]; simp [encT_len]; omega, by omega⟩, rfl, ?_⟩
    rintro _ _ ⟨rfl, rfl⟩
    conv => whnf
    refine ⟨putTL (putTL [120] lo) hi, rfl, ?_⟩
    conv => whnf
    refine ⟨⟨rfl, ?_⟩⟩
    show [[D.lf (.string (ofB (putTL (putTL [120] lo) hi)))]] = [[D.lf (.string (recT ⟨4, key, val, lo, hi⟩))]]
    rw [e1, e2, show recT ⟨4, key, val, lo, hi⟩ = ofB (recB ⟨4, key, val, lo, hi⟩) from if_pos h1']
    simp [recB]
theorem sRecText_ok : FnOk Try.prog 78 cRecText := fnOk_of fun x => fn_at tab_ok (SOk.cons sRecOk_ok (SOk.cons sPutText_ok SOk.nil)) mixed (fn := Try.f78) (code := body Try.f78) ⟨Try.func78, rfl, by kernel_rfl, by kernel_rfl, by kernel_rfl, by kernel_rfl⟩ (ev_sRecText x)

/-! The scanner -/
structure ScanX where
  l : List UInt8
  a : Int
  bad : Bool
  hl : l.length ≤ 4294967296
  h1 : -9223372036854775808 ≤ a
  h2 : a ≤ 9223372036854775807
def scanD (l : List UInt8) (a : Int) (bad : Bool) : List (List D) := [[.box [.row 1 encB l, .lf (.int .i64 a), .lf (.bool bad)]]]
/-- What the scanner does where a text is read. -/
structure ScanT (l : List UInt8) (a : Int) (bad : Bool) (t : ByteArray) (a' : Int) (bad' : Bool) : Prop where
  lo : -9223372036854775808 ≤ a'
  hi : a' ≤ 9223372036854775807
  got : ∀ (pre : List UInt8) (u : ByteArray) (post : List UInt8), bad = false → l = pre ++ encT u ++ post → a = pre.length → u.size ≤ 1099511627775 → t = u ∧ a' = pre.length + (encT u).length ∧ bad' = false
def cScanText : Con := { X := ScanX, params := [(.mut, false)], res := [false], resOwn := true, ins := (fun x => scanD x.l x.a x.bad), post := fun x outs r => ∃ t a' bad', outs = scanD x.l a' bad' ∧ r = [[.lf (.string t)]] ∧ ScanT x.l x.a x.bad t a' bad' }
theorem ev_scanText : ∀ x, evFn tab [(131, cGetText)] cScanText Try.f79 (body Try.f79) x := by
  rintro ⟨l, a, bad, hl, h1, h2⟩
  conv => whnf
  refine ⟨⟨l, a, hl, h1, h2⟩, rfl, ?_⟩
  rintro _ _ ⟨rfl, t, nx, rfl, hG⟩
  have hG0 : nx = -1 ∧ t = ⟨#[]⟩ ∨ 0 ≤ a ∧ a < nx ∧ nx ≤ l.length ∧ t.size ≤ l.length := hG.1
  conv => whnf
  repeat (refine ⟨rfl, ?_⟩; conv => whnf)
  cases bad with
  | true =>
    conv => whnf
    refine ⟨⟨⟨#[]⟩, a, true, rfl, rfl, h1, h2, fun pre u post h => by cases h⟩⟩
  | false =>
    conv => whnf
    refine br2 (fun h3 => ?_) (fun h3 => ?_)
    · have h3' := of_decide_eq_true h3
      conv => whnf
      refine ⟨⟨⟨#[]⟩, a, true, rfl, rfl, h1, h2, fun pre u post _ e1 e2 e3 => ?_⟩⟩
      obtain ⟨_, e5⟩ := hG.2 pre u post e1 e2 e3
      omega
    · have h3' := of_decide_eq_false h3
      conv => whnf
      refine ⟨⟨t, nx, false, rfl, rfl, by omega, by omega, fun pre u post _ e1 e2 e3 => ?_⟩⟩
      obtain ⟨e4, e5⟩ := hG.2 pre u post e1 e2 e3
      exact ⟨e4, e5, rfl⟩
theorem scanText_ok : FnOk Try.prog 79 cScanText := fnOk_of fun x => fn_at tab_ok (SOk.cons iGetText_ok SOk.nil) mixed (fn := Try.f79) (code := body Try.f79) ⟨Try.func79, rfl, by kernel_rfl, by kernel_rfl, by kernel_rfl, by kernel_rfl⟩ (ev_scanText x)
end Go.Vm
namespace Go.Vm
open Go.Proofs
set_option maxRecDepth 100000
set_option linter.unusedVariables false
set_option linter.unusedSimpArgs false

def rec0 : RecX := ⟨0, ⟨#[]⟩, ⟨#[]⟩, ⟨#[]⟩, ⟨#[]⟩⟩
/-- The record whose text this is. -/
structure TextRecR (s : ByteArray) (r : RecX) (ok : Bool) : Prop where
  yes : ok = true → recOkB r = true ∧ recT r = s
  no : ok = false → r = rec0
  all : ∀ q, recOkB q = true → recT q = s → ok = true ∧ r = q
theorem TextRecR.same {s : ByteArray} {r r' : RecX} {ok ok' : Bool} (h : TextRecR s r ok) (h' : TextRecR s r' ok') : r = r' ∧ ok = ok' := by
  cases ok with
  | true =>
    obtain ⟨h1, h2⟩ := h.yes rfl
    obtain ⟨h3, h4⟩ := h'.all r h1 h2
    exact ⟨h4.symm, h3.symm⟩
  | false =>
    cases ok' with
    | true =>
      obtain ⟨h1, h2⟩ := h'.yes rfl
      obtain ⟨h3, _⟩ := h.all r' h1 h2
      cases h3
    | false => exact ⟨(h.no rfl).trans (h'.no rfl).symm, rfl⟩
structure StrX where
  s : ByteArray
  hs : s.size ≤ 100000000
def cTextRec : Con := relC StrX [(.rd, false)] [true, false] (fun x => [[.lf (.string x.s)]]) (fun x r => ∃ q ok, r = [q.ds, [.lf (.bool ok)]] ∧ TextRecR x.s q ok)

theorem textRec_none {s : ByteArray} (h : ∀ q, recOkB q = true → recT q ≠ s) : TextRecR s rec0 false := ⟨fun h => (by cases h), fun _ => rfl, fun q h1 h2 => absurd h2 (h q h1)⟩
theorem recT_of {r : RecX} (h : recOkB r = true) : recT r = ofB (recB r) := if_pos h
theorem recB_ne (r : RecX) : 1 ≤ (recB r).length := by unfold recB; split; simp; split; simp; split; simp; simp
theorem textRec_end {s : ByteArray} {r : RecX} (hs : s ≠ ⟨#[]⟩) (h : ∀ q, recOkB q = true → recT q = s → r = q) : (recT r = s → TextRecR s r true) ∧ (recT r ≠ s → TextRecR s rec0 false) := by
  refine ⟨fun e => ⟨fun _ => ⟨?_, e⟩, fun h => (by cases h), fun q h1 h2 => ⟨rfl, h q h1 h2⟩⟩, fun e => textRec_none fun q h1 h2 => e (by rw [h q h1 h2]; exact h2)⟩
  unfold recT at e
  split at e
  · assumption
  · exact absurd e.symm hs
theorem bt_bs (s : ByteArray) (i : Nat) : bt s (i : Int) = (((bs s).getD i 0).toNat : Int) := rfl
/-- The bytes of a record's text. -/
theorem bs_recT {q : RecX} {s : ByteArray} (h1 : recOkB q = true) (h2 : recT q = s) : bs s = recB q := by
  rw [← h2, recT_of h1, bs_of]
theorem rec_sizes {q : RecX} (h : recOkB q = true) : q.key.size ≤ 1099511627775 ∧ q.val.size ≤ 1099511627775 ∧ q.lo.size ≤ 1099511627775 ∧ q.hi.size ≤ 1099511627775 := by
  rcases recOk_kind h with h1 | h1 | h1 | h1
  · have := recOk_1 h h1
    simp [recOkB, h1, emp_iff] at h
    rw [h.2.1, h.2.2]; exact ⟨by omega, by omega, by decide, by decide⟩
  · have := recOk_2 h h1
    simp [recOkB, h1, emp_iff] at h
    rw [h.2.1, h.2.2, h.1.2]; exact ⟨by omega, by decide, by decide, by decide⟩
  · have := recOk_34 h (by omega) (by omega)
    simp [recOkB, h1, emp_iff] at h
    rw [h.1.1, h.1.2]; exact ⟨by decide, by decide, by omega, by omega⟩
  · have := recOk_34 h (by omega) (by omega)
    simp [recOkB, h1, emp_iff] at h
    rw [h.1.1, h.1.2]; exact ⟨by decide, by decide, by omega, by omega⟩
theorem rec_shape {q : RecX} (h : recOkB q = true) : (q.kind = 1 ∧ q = ⟨1, q.key, q.val, ⟨#[]⟩, ⟨#[]⟩⟩ ∧ recB q = [119] ++ encT q.key ++ encT q.val) ∨
    (q.kind = 2 ∧ q = ⟨2, q.key, ⟨#[]⟩, ⟨#[]⟩, ⟨#[]⟩⟩ ∧ recB q = [103] ++ encT q.key) ∨ (q.kind = 3 ∧ q = ⟨3, ⟨#[]⟩, ⟨#[]⟩, q.lo, q.hi⟩ ∧ recB q = [115] ++ encT q.lo ++ encT q.hi) ∨
    (q.kind = 4 ∧ q = ⟨4, ⟨#[]⟩, ⟨#[]⟩, q.lo, q.hi⟩ ∧ recB q = [120] ++ encT q.lo ++ encT q.hi) := by
  obtain ⟨kind, key, val, lo, hi⟩ := q
  rcases (recOk_kind h : kind = 1 ∨ kind = 2 ∨ kind = 3 ∨ kind = 4) with rfl | rfl | rfl | rfl
  · simp [recOkB, emp_iff] at h
    simp [recB, h]
  · simp [recOkB, emp_iff] at h
    simp [recB, h]
  · simp [recOkB, emp_iff] at h
    simp [recB, h]
  · simp [recOkB, emp_iff] at h
    simp [recB, h]

/-- The first byte tells the kind. -/
theorem rec_first {q : RecX} {s : ByteArray} (h1 : recOkB q = true) (h2 : recT q = s) : bt s 0 = (if q.kind = 1 then 119 else if q.kind = 2 then 103 else if q.kind = 3 then 115 else 120) := by
  have h := bt_bs s 0
  rw [bs_recT h1 h2] at h
  rw [show ((0 : Nat) : Int) = 0 from rfl] at h
  rw [h]
  rcases rec_shape h1 with ⟨e, _, e2⟩ | ⟨e, _, e2⟩ | ⟨e, _, e2⟩ | ⟨e, _, e2⟩ <;> rw [e2] <;> simp [e]

/-- What the scanner reads of a record. -/
theorem scan2 {l : List UInt8} {c : UInt8} {x y : ByteArray} {t t' : ByteArray} {a a' : Int} {b b' : Bool} (h : ScanT l 1 false t a b) (h' : ScanT l a b t' a' b') (hl : l = [c] ++ encT x ++ encT y) (hx : x.size ≤ 1099511627775) (hy : y.size ≤ 1099511627775) :
    t = x ∧ t' = y ∧ b' = false := by
  obtain ⟨e1, e2, e3⟩ := h.got [c] x (encT y) rfl hl rfl hx
  obtain ⟨e4, e5, e6⟩ := h'.got ([c] ++ encT x) y [] e3 (by rw [hl]; simp) (by rw [e2]; simp; omega) hy
  exact ⟨e1, e4, e6⟩
theorem scan1 {l : List UInt8} {c : UInt8} {x : ByteArray} {t : ByteArray} {a : Int} {b : Bool} (h : ScanT l 1 false t a b) (hl : l = [c] ++ encT x) (hx : x.size ≤ 1099511627775) : t = x ∧ b = false := by
  obtain ⟨e1, e2, e3⟩ := h.got [c] x [] rfl (by rw [hl]; simp) rfl hx
  exact ⟨e1, e3⟩

theorem getD0 {x d : UInt8} {r : List UInt8} : (x :: r).getD 0 d = x := rfl
theorem of_ne {s : ByteArray} (h : s ≠ ⟨#[]⟩) : 1 ≤ s.size := by
  rcases Nat.eq_zero_or_pos s.size with h1 | h1
  · exact absurd (by
      obtain ⟨⟨l⟩⟩ := s
      have : l.length = 0 := h1
      rw [List.length_eq_zero_iff] at this
      rw [this]) h
  · exact h1

theorem ev_iTextRec : ∀ x, evFn tab [(79, cScanText), (46, cRecText)] cTextRec Try.f25 (body Try.f25) x := by
  rintro ⟨s, hs⟩
  conv => whnf
  refine br2 (fun h1 => ?_) (fun h1 => ?_)
  · conv => whnf
    refine ⟨⟨rfl, rec0, false, rfl, textRec_none fun q e1 e2 => ?_⟩⟩
    have h1' : s = ⟨#[]⟩ := strEq_iff.1 h1
    have h3 : bs s = recB q := bs_recT e1 e2
    rw [h1'] at h3
    have := recB_ne q
    rw [← h3] at this
    simp [bs] at this
  have hne : s ≠ ⟨#[]⟩ := strEq_no.1 h1
  have hpos := of_ne hne
  conv => whnf
  refine ⟨?_, ?_⟩
  · show s.size ≤ 4294967296; omega
  conv => whnf
  refine ⟨by decide, ?_, ?_⟩
  · show (0 : Int) < s.size; omega
  have hF : ∀ q, recOkB q = true → recT q = s → bt s 0 = (if q.kind = 1 then 119 else if q.kind = 2 then 103 else if q.kind = 3 then 115 else 120) := fun q e1 e2 => rec_first e1 e2
  have hlen : (bs s).length ≤ 4294967296 := by rw [bs_len]; omega
  have fin : ∀ (r : RecX) (b : Bool), (∀ q, recOkB q = true → recT q = s → b = false ∧ r = q) → (b = true → TextRecR s rec0 false) ∧ (b = false → (!strEq (recT r) s) = true → TextRecR s rec0 false) ∧ (b = false → (!strEq (recT r) s) = false → TextRecR s r true) := by
    intro r b h
    obtain ⟨e1, e2⟩ := textRec_end hne (fun q h1 h2 => (h q h1 h2).2)
    refine ⟨fun hb => textRec_none fun q h1 h2 => ?_, fun hb hr => e2 (by rwa [Bool.not_eq_true', strEq_no] at hr), fun hb hr => e1 (by rwa [Bool.not_eq_false', strEq_iff] at hr)⟩
    rw [(h q h1 h2).1] at hb; cases hb
  conv => whnf
  refine br2 (fun h2 => ?_) (fun h2 => ?_)
  · have h2' : bt s 0 = 119 := eq_of_beq h2
    conv => whnf
    refine ⟨⟨bs s, 1, false, hlen, by decide, by decide⟩, rfl, ?_⟩
    rintro _ _ ⟨t, a, b, rfl, rfl, hS⟩
    conv => whnf
    refine ⟨⟨bs s, a, b, hlen, hS.lo, hS.hi⟩, rfl, ?_⟩
    rintro _ _ ⟨t', a', b', rfl, rfl, hS'⟩
    obtain ⟨f1, f2, f3⟩ := fin ⟨1, t, t', ⟨#[]⟩, ⟨#[]⟩⟩ b' (fun q e1 e2 => by
      have := hF q e1 e2
      rw [h2'] at this
      obtain ⟨z1, z2, z3, z4⟩ := rec_sizes e1
      rcases rec_shape e1 with ⟨e, e3, e4⟩ | ⟨e, e3, e4⟩ | ⟨e, e3, e4⟩ | ⟨e, e3, e4⟩
      · obtain ⟨y1, y2, y3⟩ := scan2 hS hS' (by rw [← e4]; exact bs_recT e1 e2) z1 z2
        exact ⟨y3, by rw [e3, y1, y2]⟩
      all_goals (rw [e] at this; simp at this))
    conv => whnf
    refine br2 (fun h3 => ?_) (fun h3 => ?_)
    · conv => whnf
      exact ⟨⟨rfl, rec0, false, rfl, f1 h3⟩⟩
    · conv => whnf
      refine ⟨⟨1, t, t', ⟨#[]⟩, ⟨#[]⟩⟩, rfl, ?_⟩
      rintro _ _ ⟨rfl, rfl⟩
      conv => whnf
      refine br2 (fun h4 => ?_) (fun h4 => ?_)
      · conv => whnf
        exact ⟨⟨rfl, rec0, false, rfl, f2 h3 h4⟩⟩
      · conv => whnf
        exact ⟨⟨rfl, _, true, rfl, f3 h3 h4⟩⟩
  have h2' : bt s 0 ≠ 119 := by simpa using h2
  conv => whnf
  refine br2 (fun h3 => ?_) (fun h3 => ?_)
  · have h3' : bt s 0 = 103 := eq_of_beq h3
    conv => whnf
    refine ⟨⟨bs s, 1, false, hlen, by decide, by decide⟩, rfl, ?_⟩
    rintro _ _ ⟨t, a, b, rfl, rfl, hS⟩
    obtain ⟨f1, f2, f3⟩ := fin ⟨2, t, ⟨#[]⟩, ⟨#[]⟩, ⟨#[]⟩⟩ b (fun q e1 e2 => by
      have := hF q e1 e2
      rw [h3'] at this
      obtain ⟨z1, z2, z3, z4⟩ := rec_sizes e1
      rcases rec_shape e1 with ⟨e, e3, e4⟩ | ⟨e, e3, e4⟩ | ⟨e, e3, e4⟩ | ⟨e, e3, e4⟩
      · rw [e] at this; simp at this
      · obtain ⟨y1, y3⟩ := scan1 hS (by rw [← e4]; exact bs_recT e1 e2) z1
        exact ⟨y3, by rw [e3, y1]⟩
      all_goals (rw [e] at this; simp at this))
    conv => whnf
    refine br2 (fun h3 => ?_) (fun h3 => ?_)
    · conv => whnf
      exact ⟨⟨rfl, rec0, false, rfl, f1 h3⟩⟩
    · conv => whnf
      refine ⟨⟨2, t, ⟨#[]⟩, ⟨#[]⟩, ⟨#[]⟩⟩, rfl, ?_⟩
      rintro _ _ ⟨rfl, rfl⟩
      conv => whnf
      refine br2 (fun h4 => ?_) (fun h4 => ?_)
      · conv => whnf
        exact ⟨⟨rfl, rec0, false, rfl, f2 h3 h4⟩⟩
      · conv => whnf
        exact ⟨⟨rfl, _, true, rfl, f3 h3 h4⟩⟩
  have h3' : bt s 0 ≠ 103 := by simpa using h3
  conv => whnf
  refine br2 (fun h4 => ?_) (fun h4 => ?_)
  · have h4' : bt s 0 = 115 := eq_of_beq h4
    conv => whnf
    refine ⟨by decide, ?_, ?_⟩
    · show (0 : Int) < s.size; omega
    conv => whnf
    refine br2 (fun h5 => absurd (eq_of_beq h5 : bt s 0 = 120) (by omega)) (fun h5 => ?_)
    conv => whnf
    refine ⟨⟨bs s, 1, false, hlen, by decide, by decide⟩, rfl, ?_⟩
    rintro _ _ ⟨t, a, b, rfl, rfl, hS⟩
    conv => whnf
    refine ⟨⟨bs s, a, b, hlen, hS.lo, hS.hi⟩, rfl, ?_⟩
    rintro _ _ ⟨t', a', b', rfl, rfl, hS'⟩
    obtain ⟨f1, f2, f3⟩ := fin ⟨3, ⟨#[]⟩, ⟨#[]⟩, t, t'⟩ b' (fun q e1 e2 => by
      have := hF q e1 e2
      rw [h4'] at this
      obtain ⟨z1, z2, z3, z4⟩ := rec_sizes e1
      rcases rec_shape e1 with ⟨e, e3, e4⟩ | ⟨e, e3, e4⟩ | ⟨e, e3, e4⟩ | ⟨e, e3, e4⟩
      · rw [e] at this; simp at this
      · rw [e] at this; simp at this
      · obtain ⟨y1, y2, y3⟩ := scan2 hS hS' (by rw [← e4]; exact bs_recT e1 e2) z3 z4
        exact ⟨y3, by rw [e3, y1, y2]⟩
      · rw [e] at this; simp at this)
    conv => whnf
    refine br2 (fun h3 => ?_) (fun h3 => ?_)
    · conv => whnf
      exact ⟨⟨rfl, rec0, false, rfl, f1 h3⟩⟩
    · conv => whnf
      refine ⟨⟨3, ⟨#[]⟩, ⟨#[]⟩, t, t'⟩, rfl, ?_⟩
      rintro _ _ ⟨rfl, rfl⟩
      conv => whnf
      refine br2 (fun h4 => ?_) (fun h4 => ?_)
      · conv => whnf
        exact ⟨⟨rfl, rec0, false, rfl, f2 h3 h4⟩⟩
      · conv => whnf
        exact ⟨⟨rfl, _, true, rfl, f3 h3 h4⟩⟩
  have h4' : bt s 0 ≠ 115 := by simpa using h4
  conv => whnf
  refine br2 (fun h5 => ?_) (fun h5 => ?_)
  · have h5' : bt s 0 = 120 := eq_of_beq h5
    conv => whnf
    refine ⟨by decide, ?_, ?_⟩
    · show (0 : Int) < s.size; omega
    conv => whnf
    refine br2 (fun h6 => ?_) (fun h6 => absurd (eq_of_beq h5) (by simpa using h6))
    conv => whnf
    refine ⟨⟨bs s, 1, false, hlen, by decide, by decide⟩, rfl, ?_⟩
    rintro _ _ ⟨t, a, b, rfl, rfl, hS⟩
    conv => whnf
    refine ⟨⟨bs s, a, b, hlen, hS.lo, hS.hi⟩, rfl, ?_⟩
    rintro _ _ ⟨t', a', b', rfl, rfl, hS'⟩
    obtain ⟨f1, f2, f3⟩ := fin ⟨4, ⟨#[]⟩, ⟨#[]⟩, t, t'⟩ b' (fun q e1 e2 => by
      have := hF q e1 e2
      rw [h5'] at this
      obtain ⟨z1, z2, z3, z4⟩ := rec_sizes e1
      rcases rec_shape e1 with ⟨e, e3, e4⟩ | ⟨e, e3, e4⟩ | ⟨e, e3, e4⟩ | ⟨e, e3, e4⟩
      · rw [e] at this; simp at this
      · rw [e] at this; simp at this
      · rw [e] at this; simp at this
      · obtain ⟨y1, y2, y3⟩ := scan2 hS hS' (by rw [← e4]; exact bs_recT e1 e2) z3 z4
        exact ⟨y3, by rw [e3, y1, y2]⟩)
    conv => whnf
    refine br2 (fun h3 => ?_) (fun h3 => ?_)
    · conv => whnf
      exact ⟨⟨rfl, rec0, false, rfl, f1 h3⟩⟩
    · conv => whnf
      refine ⟨⟨4, ⟨#[]⟩, ⟨#[]⟩, t, t'⟩, rfl, ?_⟩
      rintro _ _ ⟨rfl, rfl⟩
      conv => whnf
      refine br2 (fun h4 => ?_) (fun h4 => ?_)
      · conv => whnf
        exact ⟨⟨rfl, rec0, false, rfl, f2 h3 h4⟩⟩
      · conv => whnf
        exact ⟨⟨rfl, _, true, rfl, f3 h3 h4⟩⟩
  · have h5' : bt s 0 ≠ 120 := by simpa using h5
    conv => whnf
    refine ⟨rec0, rfl, ?_⟩
    rintro _ _ ⟨rfl, rfl⟩
    conv => whnf
    have hno : TextRecR s rec0 false := textRec_none fun q e1 e2 => by
      have := hF q e1 e2
      rcases recOk_kind e1 with e | e | e | e <;> (rw [e] at this; simp at this; omega)
    refine br2 (fun h6 => ?_) (fun h6 => ?_)
    · conv => whnf
      exact ⟨⟨rfl, rec0, false, rfl, hno⟩⟩
    · exfalso
      have h6' : recT rec0 = s := by
        replace h6 : (!strEq (recT rec0) s) = false := h6
        rwa [Bool.not_eq_false', strEq_iff] at h6
      have : recT rec0 = ⟨#[]⟩ := by unfold recT; rw [if_neg (by simp [recOkB, rec0])]
      exact hne (h6'.symm.trans this)
theorem iTextRec_ok : FnOk Try.prog 25 cTextRec := fnOk_of fun x => fn_at tab_ok (SOk.cons scanText_ok (SOk.cons iRecText_ok SOk.nil)) mixed (fn := Try.f25) (code := body Try.f25) ⟨Try.func25, rfl, by kernel_rfl, by kernel_rfl, by kernel_rfl, by kernel_rfl⟩ (ev_iTextRec x)

/-- The kind that the first byte tells, of those below k. -/
def KindR (s : ByteArray) (k : Nat) (K : Int) : Prop := ∀ q, recOkB q = true → recT q = s → (q.kind < k → K = q.kind) ∧ ((k : Int) ≤ q.kind → K = 0)
theorem ev_sTextRec : ∀ x, evFn tab [(77, cGetText), (78, cRecText)] cTextRec Try.f24 (body Try.f24) x := by
  rintro ⟨s, hs⟩
  conv => whnf
  have hF : ∀ q, recOkB q = true → recT q = s → bt s 0 = (if q.kind = 1 then 119 else if q.kind = 2 then 103 else if q.kind = 3 then 115 else 120) := fun q e1 e2 => rec_first e1 e2
  refine ⟨fun m st h => ∃ (k : Nat) (K : Int), 1 ≤ k ∧ k ≤ 5 ∧ m = 5 - k ∧ KindR s k K ∧
      st = [(0, .lf (.string s)), (2, .pt 32 0 0), (4, .pt 64 0 0), (5, .lf (.int .i64 k))] ∧ h = [(64, some (.arr true 5 [[.lf (.int .i64 K), .lf (.string ⟨#[]⟩), .lf (.string ⟨#[]⟩), .lf (.string ⟨#[]⟩), .lf (.string ⟨#[]⟩)]])), (32, some (.arr true 5 [[.lf (.int .i64 0), .lf (.string ⟨#[]⟩), .lf (.string ⟨#[]⟩), .lf (.string ⟨#[]⟩), .lf (.string ⟨#[]⟩)]]))],
    4, [(64, 64), (32, 32)], [(0, .lf (.string s)), (2, .pt 32 0 0), (4, .pt 64 0 0), (5, .lf (.int .i64 1))], [(64, some (.arr true 5 [[.lf (.int .i64 0), .lf (.string ⟨#[]⟩), .lf (.string ⟨#[]⟩), .lf (.string ⟨#[]⟩), .lf (.string ⟨#[]⟩)]])), (32, some (.arr true 5 [[.lf (.int .i64 0), .lf (.string ⟨#[]⟩), .lf (.string ⟨#[]⟩), .lf (.string ⟨#[]⟩), .lf (.string ⟨#[]⟩)]]))],
    ⟨rfl, ⟨rfl, rfl, rfl, rfl, trivial⟩, ⟨rfl, rfl, trivial⟩⟩, ⟨1, 0, by omega, by omega, rfl, fun q e1 e2 => ?_, rfl, rfl⟩, ?_⟩
  · rcases recOk_kind e1 with e | e | e | e <;> rw [e] <;> simp
  rintro m _ _ ⟨k, K, hk1, hk2, rfl, hK, rfl, rfl⟩
  conv => whnf
  refine br2 (fun h1 => ?_) (fun h1 => ?_)
  · have h1' : k ≤ 4 := by have := of_decide_eq_true h1; omega
    have hcode : ∀ q, recOkB q = true → recT q = s → (bt s 0 = bt ⟨#[32, 119, 103, 115, 120]⟩ k ↔ q.kind = k) := by
      intro q e1 e2
      rw [hF q e1 e2]
      rcases (show k = 1 ∨ k = 2 ∨ k = 3 ∨ k = 4 by omega) with rfl | rfl | rfl | rfl <;> rcases recOk_kind e1 with e | e | e | e <;> rw [e] <;> decide
    have hnext : ∀ q, recOkB q = true → recT q = s → s ≠ ⟨#[]⟩ := fun q e1 e2 e3 => by
      have h3 : bs s = recB q := bs_recT e1 e2
      have := recB_ne q
      rw [← h3, e3] at this
      simp [bs] at this
    have hw : IntKind.i64.wrap ((k : Int) + 1) = ((k + 1 : Nat) : Int) := by rw [w64 (by omega) (by omega)]; rfl
    have step0 : (∀ q, recOkB q = true → recT q = s → q.kind ≠ k) → KindR s (k + 1) K := fun hne q e1 e2 => by
      have := hne q e1 e2
      obtain ⟨a1, a2⟩ := hK q e1 e2
      exact ⟨fun h => a1 (by omega), fun h => a2 (by omega)⟩
    have step1 : (bt s 0 = bt ⟨#[32, 119, 103, 115, 120]⟩ k) → KindR s (k + 1) k := fun hb q e1 e2 => by
      have := (hcode q e1 e2).1 hb
      exact ⟨fun _ => this.symm, fun h => by omega⟩
    conv => whnf
    refine br2 (fun h2 => ?_) (fun h2 => ?_)
    · have hne : s ≠ ⟨#[]⟩ := by rwa [Bool.not_eq_true', strEq_no] at h2
      have := of_ne hne
      conv => whnf
      refine ⟨by decide, ?_, ?_⟩
      · show (0 : Int) < s.size; omega
      conv => whnf
      refine ⟨by omega, ?_, ?_⟩
      · show (k : Int) < 5; omega
      conv => whnf
      refine br2 (fun h3 => ?_) (fun h3 => ?_)
      · conv => whnf
        refine ⟨5 - (k + 1), [(64, 64), (32, 32)], [(0, .lf (.string s)), (2, .pt 32 0 0), (4, .pt 64 0 0), (5, .lf (.int .i64 ((k + 1 : Nat) : Int)))], [(64, some (.arr true 5 [[.lf (.int .i64 k), .lf (.string ⟨#[]⟩), .lf (.string ⟨#[]⟩), .lf (.string ⟨#[]⟩), .lf (.string ⟨#[]⟩)]])), (32, some (.arr true 5 [[.lf (.int .i64 0), .lf (.string ⟨#[]⟩), .lf (.string ⟨#[]⟩), .lf (.string ⟨#[]⟩), .lf (.string ⟨#[]⟩)]]))], by omega, ⟨rfl, ⟨rfl, rfl, rfl, ?_, trivial⟩, ⟨rfl, rfl, trivial⟩⟩, k + 1, k, by omega, by omega, rfl, step1 (eq_of_beq h3), rfl, rfl⟩
        show V.lf (.int .i64 (IntKind.i64.wrap ((k : Int) + 1))) = _
        rw [hw]
      · conv => whnf
        refine ⟨5 - (k + 1), [(64, 64), (32, 32)], [(0, .lf (.string s)), (2, .pt 32 0 0), (4, .pt 64 0 0), (5, .lf (.int .i64 ((k + 1 : Nat) : Int)))], [(64, some (.arr true 5 [[.lf (.int .i64 K), .lf (.string ⟨#[]⟩), .lf (.string ⟨#[]⟩), .lf (.string ⟨#[]⟩), .lf (.string ⟨#[]⟩)]])), (32, some (.arr true 5 [[.lf (.int .i64 0), .lf (.string ⟨#[]⟩), .lf (.string ⟨#[]⟩), .lf (.string ⟨#[]⟩), .lf (.string ⟨#[]⟩)]]))], by omega, ⟨rfl, ⟨rfl, rfl, rfl, ?_, trivial⟩, ⟨rfl, rfl, trivial⟩⟩, k + 1, K, by omega, by omega, rfl, step0 (fun q e1 e2 e3 => ?_), rfl, rfl⟩
        · show V.lf (.int .i64 (IntKind.i64.wrap ((k : Int) + 1))) = _
          rw [hw]
        · have := (hcode q e1 e2).2 e3
          have h3' : ¬ bt s 0 = bt ⟨#[32, 119, 103, 115, 120]⟩ k := fun e => by
            replace h3 : (bt s 0 == bt ⟨#[32, 119, 103, 115, 120]⟩ k) = false := h3
            rw [e] at h3; simp at h3
          exact h3' this
    · conv => whnf
      refine ⟨5 - (k + 1), [(64, 64), (32, 32)], [(0, .lf (.string s)), (2, .pt 32 0 0), (4, .pt 64 0 0), (5, .lf (.int .i64 ((k + 1 : Nat) : Int)))], [(64, some (.arr true 5 [[.lf (.int .i64 K), .lf (.string ⟨#[]⟩), .lf (.string ⟨#[]⟩), .lf (.string ⟨#[]⟩), .lf (.string ⟨#[]⟩)]])), (32, some (.arr true 5 [[.lf (.int .i64 0), .lf (.string ⟨#[]⟩), .lf (.string ⟨#[]⟩), .lf (.string ⟨#[]⟩), .lf (.string ⟨#[]⟩)]]))], by omega, ⟨rfl, ⟨rfl, rfl, rfl, ?_, trivial⟩, ⟨rfl, rfl, trivial⟩⟩, k + 1, K, by omega, by omega, rfl, step0 (fun q e1 e2 e3 => ?_), rfl, rfl⟩
      · show V.lf (.int .i64 (IntKind.i64.wrap ((k : Int) + 1))) = _
        rw [hw]
      · have h2' : s = ⟨#[]⟩ := by rwa [Bool.not_eq_false', strEq_iff] at h2
        exact hnext q e1 e2 h2'
  · have h1' : k = 5 := by have := of_decide_eq_false h1; omega
    subst h1'
    have hK' : ∀ q, recOkB q = true → recT q = s → K = q.kind := fun q e1 e2 => (hK q e1 e2).1 (by rcases recOk_kind e1 with e | e | e | e <;> rw [e] <;> decide)
    have hlen : (bs s).length ≤ 4294967296 := by rw [bs_len]; omega
    conv => whnf
    refine ⟨?_, ?_⟩
    · show s.size ≤ 4294967296; omega
    conv => whnf
    refine ⟨⟨bs s, 1, hlen, by decide, by decide⟩, rfl, ?_⟩
    rintro _ _ ⟨rfl, t, a, rfl, hG⟩
    have hG0 : a = -1 ∧ t = ⟨#[]⟩ ∨ (0 : Int) ≤ 1 ∧ 1 < a ∧ a ≤ (bs s).length ∧ t.size ≤ (bs s).length := hG.1
    conv => whnf
    refine ⟨?_, ?_⟩
    · show s.size ≤ 4294967296; omega
    conv => whnf
    refine ⟨⟨bs s, a, hlen, by omega, by omega⟩, rfl, ?_⟩
    rintro _ _ ⟨rfl, t', a', rfl, hG'⟩
    have two : ∀ (c : UInt8) (x y : ByteArray), bs s = [c] ++ encT x ++ encT y → x.size ≤ 1099511627775 → y.size ≤ 1099511627775 → t = x ∧ t' = y := by
      intro c x y e1 e2 e3
      obtain ⟨y1, y2⟩ := hG.2 [c] x (encT y) e1 rfl e2
      obtain ⟨y3, y4⟩ := hG'.2 ([c] ++ encT x) y [] (by show bs s = _; rw [e1]; simp) (by show a = _; rw [y2]; simp; omega) e3
      exact ⟨y1, y3⟩
    have one : ∀ (c : UInt8) (x : ByteArray), bs s = [c] ++ encT x → x.size ≤ 1099511627775 → t = x := by
      intro c x e1 e2
      exact (hG.2 [c] x [] (by show bs s = _; rw [e1]; simp) rfl e2).1
    have hend : ∀ r : RecX, (∀ q, recOkB q = true → recT q = s → r = q) → (strEq s ⟨#[]⟩ = true → TextRecR s rec0 false) ∧ (strEq s ⟨#[]⟩ = false → (!strEq (recT r) s) = true → TextRecR s rec0 false) ∧ (strEq s ⟨#[]⟩ = false → (!strEq (recT r) s) = false → TextRecR s r true) := by
      intro r h
      refine ⟨fun he => textRec_none fun q e1 e2 => ?_, fun he hr => (textRec_end (strEq_no.1 he) h).2 (by rwa [Bool.not_eq_true', strEq_no] at hr), fun he hr => (textRec_end (strEq_no.1 he) h).1 (by rwa [Bool.not_eq_false', strEq_iff] at hr)⟩
      have h3 : bs s = recB q := bs_recT e1 e2
      have := recB_ne q
      rw [← h3, strEq_iff.1 he] at this
      simp [bs] at this
    conv => whnf
    refine br2 (fun h2 => ?_) (fun h2 => ?_)
    · have h2' := of_decide_eq_true h2
      obtain ⟨f1, f2, f3⟩ := hend ⟨K, ⟨#[]⟩, ⟨#[]⟩, t, t'⟩ (fun q e1 e2 => by
        have hk := hK' q e1 e2
        obtain ⟨z1, z2, z3, z4⟩ := rec_sizes e1
        rcases rec_shape e1 with ⟨e, e3, e4⟩ | ⟨e, e3, e4⟩ | ⟨e, e3, e4⟩ | ⟨e, e3, e4⟩
        · omega
        · omega
        · obtain ⟨y1, y2⟩ := two _ _ _ (by rw [← e4]; exact bs_recT e1 e2) z3 z4
          rw [e3, y1, y2, hk, e]
        · obtain ⟨y1, y2⟩ := two _ _ _ (by rw [← e4]; exact bs_recT e1 e2) z3 z4
          rw [e3, y1, y2, hk, e])
      conv => whnf
      refine br2 (fun h3 => ?_) (fun h3 => ?_)
      · conv => whnf
        exact ⟨⟨rfl, rec0, false, rfl, f1 h3⟩⟩
      · conv => whnf
        refine ⟨⟨K, ⟨#[]⟩, ⟨#[]⟩, t, t'⟩, rfl, ?_⟩
        rintro _ _ ⟨rfl, rfl⟩
        conv => whnf
        refine br2 (fun h4 => ?_) (fun h4 => ?_)
        · conv => whnf
          exact ⟨⟨rfl, rec0, false, rfl, f2 h3 h4⟩⟩
        · conv => whnf
          exact ⟨⟨rfl, _, true, rfl, f3 h3 h4⟩⟩
    · have h2' := of_decide_eq_false h2
      conv => whnf
      refine br2 (fun h5 => ?_) (fun h5 => ?_)
      · have h5' : K = 1 := eq_of_beq h5
        obtain ⟨f1, f2, f3⟩ := hend ⟨K, t, t', ⟨#[]⟩, ⟨#[]⟩⟩ (fun q e1 e2 => by
          have hk := hK' q e1 e2
          obtain ⟨z1, z2, z3, z4⟩ := rec_sizes e1
          rcases rec_shape e1 with ⟨e, e3, e4⟩ | ⟨e, e3, e4⟩ | ⟨e, e3, e4⟩ | ⟨e, e3, e4⟩
          · obtain ⟨y1, y2⟩ := two _ _ _ (by rw [← e4]; exact bs_recT e1 e2) z1 z2
            rw [e3, y1, y2, hk, e]
          all_goals omega)
        conv => whnf
        refine br2 (fun h3 => ?_) (fun h3 => ?_)
        · conv => whnf
          exact ⟨⟨rfl, rec0, false, rfl, f1 h3⟩⟩
        · conv => whnf
          refine ⟨⟨K, t, t', ⟨#[]⟩, ⟨#[]⟩⟩, rfl, ?_⟩
          rintro _ _ ⟨rfl, rfl⟩
          conv => whnf
          refine br2 (fun h4 => ?_) (fun h4 => ?_)
          · conv => whnf
            exact ⟨⟨rfl, rec0, false, rfl, f2 h3 h4⟩⟩
          · conv => whnf
            exact ⟨⟨rfl, _, true, rfl, f3 h3 h4⟩⟩
      · have h5' : K ≠ 1 := by intro e; rw [e] at h5; simp at h5
        obtain ⟨f1, f2, f3⟩ := hend ⟨K, t, ⟨#[]⟩, ⟨#[]⟩, ⟨#[]⟩⟩ (fun q e1 e2 => by
          have hk := hK' q e1 e2
          obtain ⟨z1, z2, z3, z4⟩ := rec_sizes e1
          rcases rec_shape e1 with ⟨e, e3, e4⟩ | ⟨e, e3, e4⟩ | ⟨e, e3, e4⟩ | ⟨e, e3, e4⟩
          · omega
          · have y1 := one _ _ (by rw [← e4]; exact bs_recT e1 e2) z1
            rw [e3, y1, hk, e]
          all_goals omega)
        conv => whnf
        refine br2 (fun h3 => ?_) (fun h3 => ?_)
        · conv => whnf
          exact ⟨⟨rfl, rec0, false, rfl, f1 h3⟩⟩
        · conv => whnf
          refine ⟨⟨K, t, ⟨#[]⟩, ⟨#[]⟩, ⟨#[]⟩⟩, rfl, ?_⟩
          rintro _ _ ⟨rfl, rfl⟩
          conv => whnf
          refine br2 (fun h4 => ?_) (fun h4 => ?_)
          · conv => whnf
            exact ⟨⟨rfl, rec0, false, rfl, f2 h3 h4⟩⟩
          · conv => whnf
            exact ⟨⟨rfl, _, true, rfl, f3 h3 h4⟩⟩
theorem sTextRec_ok : FnOk Try.prog 24 cTextRec := fnOk_of fun x => fn_at tab_ok (SOk.cons sGetText_ok (SOk.cons sRecText_ok SOk.nil)) mixed (fn := Try.f24) (code := body Try.f24) ⟨Try.func24, rfl, by kernel_rfl, by kernel_rfl, by kernel_rfl, by kernel_rfl⟩ (ev_sTextRec x)
def cTrue1 : Con := pureC StrX [(.rd, false)] [false] (fun x => [[.lf (.string x.s)]]) (fun _ => [[.lf (.bool true)]])
/-- Any text. -/
def cLawS : Con := pureC ByteArray [(.rd, false)] [false] (fun s => [[.lf (.string s)]]) (fun _ => [[.lf (.bool true)]])
theorem ev_lawTextRec : ∀ x, evFn tab [(24, cTextRec), (25, cTextRec), (26, cEqRec)] cLawS Try.f5 (body Try.f5) x := by
  intro s
  conv => whnf
  refine br2 (fun h1 => ?_) (fun h1 => ?_)
  · conv => whnf
    exact ⟨⟨rfl, rfl⟩⟩
  have h1' : s.size ≤ 1048576 := by have := of_decide_eq_false h1; omega
  conv => whnf
  refine ⟨⟨s, by omega⟩, rfl, ?_⟩
  rintro _ _ ⟨rfl, q, ok, rfl, hq⟩
  conv => whnf
  refine ⟨⟨s, by omega⟩, rfl, ?_⟩
  rintro _ _ ⟨rfl, q', ok', rfl, hq'⟩
  obtain ⟨rfl, rfl⟩ := hq.same hq'
  conv => whnf
  refine ⟨(q, q), rfl, ?_⟩
  rintro _ _ ⟨rfl, rfl⟩
  conv => whnf
  refine br2 (fun h2 => ?_) (fun h2 => ?_)
  · exact absurd (h2 : (!eqX q q) = true) (by rw [eqX_refl]; simp)
  repeat' ((conv => whnf); refine br2 (fun h => absurd (h : (ok != ok) = true) (by simp)) (fun h => ?_))
  conv => whnf
  exact ⟨⟨rfl, rfl⟩⟩
theorem lawTextRec_ok : FnOk Try.prog 5 cLawS := fnOk_of fun x => fn_at tab_ok (SOk.cons sTextRec_ok (SOk.cons iTextRec_ok (SOk.cons eqRec_ok SOk.nil))) mixed (fn := Try.f5) (code := body Try.f5) ⟨Try.func5, rfl, by kernel_rfl, by kernel_rfl, by kernel_rfl, by kernel_rfl⟩ (ev_lawTextRec x)
end Go.Vm
namespace Go.Vm
open Go.Proofs
set_option maxRecDepth 100000
set_option linter.unusedVariables false
set_option linter.unusedSimpArgs false

def recE (r : RecX) : List D := r.ds
def anyP {α : Type} (_ : α) : Prop := True
theorem ev_l08Rec : ∀ x, evFnX tab [(120, cBelow), (162, (cDraw false strE (strP 16))), (163, (cDraw false strE (strP 20))), (164, (cDraw true rngE (rngP 17)))] (cDraw true recE anyP) Try.f141 (body Try.f141) x := by
  intro c
  conv => whnf
  refine useBelow (c := c) (n := 4) rfl (by decide) fun c k k1 k2 k3 => ?_
  clear k1 k2 k3
  conv => whnf
  refine br2 (fun h0 => ?_) (fun h0 => ?_)
  · conv => whnf
    refine useDraw (c := c) rfl fun c a ha => ?_
    conv => whnf
    refine br2 (fun h0 => ?_) (fun h0 => ?_)
    · conv => whnf
      refine useDraw (c := c) rfl fun c b hb => ?_
      conv => whnf
      exact ⟨⟨c, ⟨_, a, b, _, _⟩, rfl, rfl, trivial⟩⟩
    · conv => whnf
      exact ⟨⟨c, ⟨_, a, _, _, _⟩, rfl, rfl, trivial⟩⟩
  · conv => whnf
    refine useDraw (c := c) rfl fun c a ha => ?_
    conv => whnf
    exact ⟨⟨c, ⟨_, _, _, a.lo, a.hi⟩, rfl, rfl, trivial⟩⟩
theorem l08Rec_ok : FnOk Try.prog 141 (cDraw true recE anyP) := fnOk_of fun x => fnX_at tab_ok (SOk.cons l01Below_ok (SOk.cons l08User_ok (SOk.cons l08Uval_ok (SOk.cons l08Reach_ok SOk.nil)))) mixed (fn := Try.f141) (code := body Try.f141) ⟨Try.func141, rfl, by kernel_rfl, by kernel_rfl, by kernel_rfl, by kernel_rfl⟩ (ev_l08Rec x)
theorem ev_l08Any : ∀ x, evFnX tab [(120, cBelow), (141, (cDraw true recE anyP)), (142, (cDraw false intE intP)), (62, (cDraw true rngE (rngP 20)))] (cDraw true recE anyP) Try.f97 (body Try.f97) x := by
  intro c
  conv => whnf
  refine useDraw (c := c) rfl fun c r _ => ?_
  obtain ⟨r1, r2, r3, r4, r5⟩ := r
  conv => whnf
  refine useBelow (c := c) (n := 14) rfl (by decide) fun c k k1 k2 k3 => ?_
  clear k1 k2 k3
  have fin : ∀ (c : CurX) (a : Int) (b d e f : ByteArray), ∃ (c' : CurX) (r : RecX), [[c.d]] = [[c'.d]] ∧ [[D.lf (.int .i64 a), D.lf (.string b), D.lf (.string d), D.lf (.string e), D.lf (.string f)]] = [recE r] ∧ anyP r := fun c a b d e f => ⟨c, ⟨a, b, d, e, f⟩, rfl, rfl, trivial⟩
  have g1 : (k == 0) = true → k = 0 := fun h => eq_of_beq h
  have g2 : (k == 1) = true → k = 1 := fun h => eq_of_beq h
  have g3 : (k == 2) = true → k = 2 := fun h => eq_of_beq h
  conv => whnf
  refine br2 (fun h0 => ?_) (fun h0 => ?_)
  · obtain rfl := g1 h0
    conv => whnf
    refine useDraw (c := c) rfl fun c a ha => ?_
    conv => whnf
    exact ⟨fin _ _ _ _ _ _⟩
  conv => whnf
  refine br2 (fun h0 => ?_) (fun h0 => ?_)
  · obtain rfl := g2 h0
    conv => whnf
    refine useBelow (c := c) (n := 3) rfl (by decide) fun c v a1 a2 _ => ?_
    replace a2 : v < 3 := a2 (by decide)
    conv => whnf
    refine ⟨a1, a2, ?_⟩
    conv => whnf
    refine exStr 30 ?_ ?_ fun s hs => ?_
    · rfl
    · show v.toNat < 3; omega
    conv => whnf
    exact ⟨fin _ _ _ _ _ _⟩
  conv => whnf
  refine br2 (fun h0 => ?_) (fun h0 => ?_)
  · obtain rfl := g3 h0
    conv => whnf
    refine useBelow (c := c) (n := 3) rfl (by decide) fun c v a1 a2 _ => ?_
    replace a2 : v < 3 := a2 (by decide)
    conv => whnf
    refine ⟨a1, a2, ?_⟩
    conv => whnf
    refine exStr 30 ?_ ?_ fun s hs => ?_
    · rfl
    · show v.toNat < 3; omega
    conv => whnf
    exact ⟨fin _ _ _ _ _ _⟩
  conv => whnf
  refine br2 (fun h0 => ?_) (fun h0 => ?_)
  · conv => whnf
    refine useDraw (c := c) rfl fun c a ha => ?_
    conv => whnf
    exact ⟨fin _ _ _ _ _ _⟩
  conv => whnf
  exact ⟨fin _ _ _ _ _ _⟩
theorem l08Any_ok : FnOk Try.prog 97 (cDraw true recE anyP) := fnOk_of fun x => fnX_at tab_ok (SOk.cons l01Below_ok (SOk.cons l08Rec_ok (SOk.cons l01Raw_ok (SOk.cons l02AnyRange_ok SOk.nil)))) mixed (fn := Try.f97) (code := body Try.f97) ⟨Try.func97, rfl, by kernel_rfl, by kernel_rfl, by kernel_rfl, by kernel_rfl⟩ (ev_l08Any x)
def cDrawRec : Con := { X := CodeX, params := [(.keep, false)], res := [true], resOwn := true, ins := fun c => [[.row 1 encB c.b]], post := fun _ outs r => outs = [] ∧ ∃ q : RecX, r = [q.ds] }
theorem ev_drawRecText : ∀ x, evFnX tab [(61, cNew), (97, (cDraw true recE anyP))] cDrawRec Try.f45 (body Try.f45) x := by
  rintro ⟨l, hb⟩
  conv => whnf
  refine ⟨⟨l, hb⟩, rfl, ?_⟩
  rintro _ _ ⟨rfl, c, rfl⟩
  conv => whnf
  refine useDraw (c := c) rfl fun c r _ => ?_
  conv => whnf
  exact ⟨⟨rfl, r, rfl⟩⟩
theorem drawRecText_ok : FnOk Try.prog 45 cDrawRec := fnOk_of fun x => fnX_at tab_ok (SOk.cons l01New_ok (SOk.cons l08Any_ok SOk.nil)) mixed (fn := Try.f45) (code := body Try.f45) ⟨Try.func45, rfl, by kernel_rfl, by kernel_rfl, by kernel_rfl, by kernel_rfl⟩ (ev_drawRecText x)
theorem recT_emp {r : RecX} : emp (recT r) = !recOkB r := by
  cases h : recOkB r with
  | false => unfold recT; rw [if_neg (by rw [h]; simp)]; exact emp_iff.2 rfl
  | true =>
    rw [recT_of h]
    rw [Bool.not_true, emp_no]
    intro e
    have := congrArg bs e
    rw [bs_of] at this
    have h2 := recB_ne r
    rw [this] at h2
    simp [bs] at h2
theorem recT_size (r : RecX) : (recT r).size ≤ 1000 := by
  unfold recT
  split
  · rename_i h
    rw [of_size]
    have vl : ∀ n : Nat, n ≤ 1000 → (varB n).length ≤ 10 := fun n hn => varB_len (by omega)
    rcases recOk_kind h with h1 | h1 | h1 | h1
    · have := recOk_1 h h1
      simp only [recB, h1, if_true, List.length_cons, List.length_append, encT, bs_len]
      have := vl r.key.size (by omega); have := vl r.val.size (by omega); omega
    · have := recOk_2 h h1
      simp only [recB, h1, encT]
      have := vl r.key.size (by omega)
      simp [bs_len]; omega
    · have := recOk_34 h (by omega) (by omega)
      simp only [recB, h1, encT]
      have := vl r.lo.size (by omega); have := vl r.hi.size (by omega)
      simp [bs_len]; omega
    · have := recOk_34 h (by omega) (by omega)
      simp only [recB, h1, encT]
      have := vl r.lo.size (by omega); have := vl r.hi.size (by omega)
      simp [bs_len]; omega
  · decide
structure LawX where
  b : List UInt8
def cLawB : Con := { X := LawX, params := [(.keep, false)], res := [false], resOwn := true, ins := fun c => [[.row 1 encB c.b]], post := fun _ outs r => outs = [] ∧ r = [[.lf (.bool true)]] }
theorem ev_lawRec : ∀ x, evFnX tab [(45, cDrawRec), (46, cRecText), (47, cRecOk), (25, cTextRec)] cLawB Try.f9 (body Try.f9) x := by
  rintro ⟨l⟩
  conv => whnf
  intro _
  conv => whnf
  refine br2 (fun h0 => ?_) (fun h0 => ?_)
  · conv => whnf
    exact ⟨⟨rfl, rfl⟩⟩
  have hb : l.length ≤ 1048576 := by have h1 : ¬ (l.length : Int) > 1048576 := of_decide_eq_false h0; omega
  conv => whnf
  refine ⟨⟨l, hb⟩, rfl, ?_⟩
  rintro _ _ ⟨rfl, r, rfl⟩
  conv => whnf
  refine ⟨r, rfl, ?_⟩
  rintro _ _ ⟨rfl, rfl⟩
  conv => whnf
  refine ⟨r, rfl, ?_⟩
  rintro _ _ ⟨rfl, rfl⟩
  have he := recT_emp (r := r)
  conv => whnf
  refine br2 (fun h1 => ?_) (fun h1 => ?_)
  · exfalso
    replace h1 : ((!emp (recT r)) != recOkB r) = true := h1
    rw [he] at h1; simp at h1
  have hs := recT_size r
  conv => whnf
  refine ⟨⟨recT r, by omega⟩, rfl, ?_⟩
  rintro _ _ ⟨rfl, q, ok, rfl, hR⟩
  cases hok : recOkB r with
  | true =>
    obtain ⟨e1, e2⟩ := hR.all r hok rfl
    subst e1; subst e2
    have hne : strEq (recT q) ⟨#[]⟩ = false := by rw [show strEq (recT q) ⟨#[]⟩ = emp (recT q) from rfl, he, hok]; rfl
    conv => whnf
    refine br2 (fun h2 => ?_) (fun h2 => ?_)
    · conv => whnf
      refine ⟨⟨rfl, ?_⟩⟩
      show [[D.lf (.bool (q.kind == q.kind && (strEq q.key q.key && (strEq q.val q.val && (strEq q.lo q.lo && (strEq q.hi q.hi && true))))))]] = _
      simp [strEq_refl]
    · exfalso
      replace h2 : (true == !strEq (recT q) ⟨#[]⟩) = false := h2
      rw [hne] at h2; simp at h2
  | false =>
    have hem : strEq (recT r) ⟨#[]⟩ = true := by rw [show strEq (recT r) ⟨#[]⟩ = emp (recT r) from rfl, he, hok]; rfl
    have hok2 : ok = false := by
      cases ok with
      | false => rfl
      | true =>
        obtain ⟨y1, y2⟩ := hR.yes rfl
        have := recT_emp (r := q)
        rw [y2, he, hok, y1] at this
        simp at this
    subst hok2
    conv => whnf
    refine br2 (fun h2 => ?_) (fun h2 => ?_)
    · conv => whnf
      exact ⟨⟨rfl, rfl⟩⟩
    · exfalso
      replace h2 : (false == !strEq (recT r) ⟨#[]⟩) = false := h2
      rw [hem] at h2; simp at h2
theorem lawRec_ok : FnOk Try.prog 9 cLawB := fnOk_of fun x => fnX_at tab_ok (SOk.cons drawRecText_ok (SOk.cons iRecText_ok (SOk.cons sRecOk_ok (SOk.cons iTextRec_ok SOk.nil)))) mixed (fn := Try.f9) (code := body Try.f9) ⟨Try.func9, rfl, by kernel_rfl, by kernel_rfl, by kernel_rfl, by kernel_rfl⟩ (ev_lawRec x)
end Go.Vm
namespace Go.Vm
open Go.Proofs
set_option maxRecDepth 100000
set_option linter.unusedVariables false
set_option linter.unusedSimpArgs false

theorem any_mono {a b : List LockX} {p : LockX → Bool} (h : ∀ z ∈ a, z ∈ b) (hb : b.any p = false) : a.any p = false := by
  rw [List.any_eq_false] at *
  exact fun z hz => hb z (h z hz)
theorem any_mono' {a b : List LockX} {p : LockX → Bool} (h : ∀ z ∈ a, z ∈ b) (ha : a.any p = true) : b.any p = true := by
  rw [List.any_eq_true] at *
  obtain ⟨z, hz, hp⟩ := ha
  exact ⟨z, h z hz, hp⟩
/-- Each of a list's elements stands rightly to those ahead of it. -/
def Each (P : List LockX → LockX → Prop) (l : List LockX) : Prop := ∀ i y, l[i]? = some y → P (l.take i) y
theorem Each.nil {P : List LockX → LockX → Prop} : Each P [] := fun i y h => by simp at h
theorem Each.snoc {P : List LockX → LockX → Prop} {l : List LockX} {z : LockX} (h : Each P l) (hz : P l z) : Each P (l ++ [z]) := by
  intro i y hy
  rcases Nat.lt_or_ge i l.length with hi | hi
  · rw [List.getElem?_append_left hi] at hy
    rw [List.take_append_of_le_length (by omega)]
    exact h i y hy
  · have h2 := (List.getElem?_eq_some_iff.1 hy).1
    simp at h2
    obtain rfl : i = l.length := by omega
    simp at hy
    subst hy
    rw [List.take_left]
    exact hz
theorem Each.imp {P Q : List LockX → LockX → Prop} {l : List LockX} (h : Each P l) (f : ∀ t y, P t y → Q t y) : Each Q l := fun i y hy => f _ _ (h i y hy)
theorem Each.ahead {P : List LockX → LockX → Prop} {l : List LockX} {z : LockX} (h : Each P (l ++ [z])) : Each P l ∧ P l z := by
  refine ⟨fun i y hy => ?_, ?_⟩
  · have h2 := (List.getElem?_eq_some_iff.1 hy).1
    have := h i y (by rw [List.getElem?_append_left h2]; exact hy)
    rwa [List.take_append_of_le_length (by omega)] at this
  · have := h l.length z (by simp)
    rwa [List.take_left] at this
/-- Rightness that holds ahead of fewer. -/
theorem Each.filter {P : List LockX → LockX → Prop} {p : LockX → Bool} (mono : ∀ s t y, (∀ z ∈ s, z ∈ t) → P t y → P s y) {l : List LockX} (h : Each P l) : Each P (l.filter p) := by
  have key : ∀ n, Each P ((l.take n).filter p) := by
    intro n
    induction n with
    | zero => simp; exact Each.nil
    | succ n ih =>
      rcases Nat.lt_or_ge n l.length with hn | hn
      · have hy : l[n]? = some l[n] := List.getElem?_eq_getElem hn
        cases hp : p l[n] with
        | true => rw [filter_yes hy hp]; exact ih.snoc (mono _ _ _ (fun z hz => (List.mem_filter.1 hz).1) (h n _ hy))
        | false => rw [filter_no hy hp]; exact ih
      · rw [List.take_of_length_le (by omega)]; rw [List.take_of_length_le (by omega)] at ih; exact ih
  have := key l.length
  rwa [List.take_length] at this
structure FrI (w : List LockX) (t : FrS) : Prop where
  held : Each (fun s y => lockOkB y = true ∧ anyB s y = false) t.h
  wait : Each (fun s y => lockOkB y = true ∧ waitsB s y.tx = false ∧ (anyB t.h y = true ∨ anyB s y = true)) t.s
  sub : ∀ z ∈ t.s, z ∈ w
  got : ∀ z ∈ t.g, z ∈ t.h
  row : t.g.Sublist w
theorem FrI.step {w : List LockX} {t : FrS} {y : LockX} (h : FrI w t) (h1 : lockOkB y = true) (h2 : waitsB w y.tx = false) : FrI (w ++ [y]) (t.step y) := by
  unfold FrS.step
  by_cases e : (anyB t.h y || anyB t.s y) = true
  · rw [if_pos e]
    rw [Bool.or_eq_true] at e
    refine ⟨h.held, h.wait.snoc ⟨h1, any_mono h.sub h2, e⟩, ?_, h.got, h.row.trans (List.sublist_append_left _ _)⟩
    intro z hz
    rcases List.mem_append.1 hz with hz | hz
    · exact List.mem_append_left _ (h.sub z hz)
    · exact List.mem_append_right _ hz
  · rw [if_neg e]
    have e' : anyB t.h y = false ∧ anyB t.s y = false := by cases h3 : anyB t.h y <;> cases h4 : anyB t.s y <;> simp_all
    refine ⟨h.held.snoc ⟨h1, e'.1⟩, h.wait.imp ?_, fun z hz => List.mem_append_left _ (h.sub z hz), ?_, ?_⟩
    · rintro s z ⟨a, b, c⟩
      refine ⟨a, b, ?_⟩
      rcases c with c | c
      · exact .inl (any_mono' (fun _ hz => List.mem_append_left _ hz) c)
      · exact .inr c
    · intro z hz
      rcases List.mem_append.1 hz with hz | hz
      · exact List.mem_append_left _ (h.got z hz)
      · exact List.mem_append_right _ hz
    · exact List.Sublist.append h.row (List.Sublist.refl _)
theorem frRun_inv {h w : List LockX} (hh : Each (fun s y => lockOkB y = true ∧ anyB s y = false) h) (hw : Each (fun s y => lockOkB y = true ∧ waitsB s y.tx = false) w) : FrI w (frRun h w) := by
  have key : ∀ n, FrI (w.take n) (frRun h (w.take n)) := by
    intro n
    induction n with
    | zero => rw [List.take_zero]; exact ⟨hh, Each.nil, by simp [frRun], by simp [frRun], List.Sublist.refl _⟩
    | succ n ih =>
      rcases Nat.lt_or_ge n w.length with hn | hn
      · have hy : w[n]? = some w[n] := List.getElem?_eq_getElem hn
        obtain ⟨a, b⟩ := hw n _ hy
        rw [take_snoc hy, frRun_snoc]
        exact ih.step a b
      · rw [List.take_of_length_le (by omega)]; rw [List.take_of_length_le (by omega)] at ih; exact ih
  have := key w.length
  rwa [List.take_length] at this
theorem fr_inv {x : LocksX} (h : LocksOkP x) (t : TxX) : FrI (x.wait.filter (notTx t)) (x.fr t) := by
  obtain ⟨_, h1, h2⟩ := h
  refine frRun_inv ?_ ?_
  · exact Each.filter (l := x.held) (fun s t y hs hp => ⟨hp.1, any_mono hs hp.2⟩) h1
  · refine Each.filter (l := x.wait) (fun s t y hs hp => ⟨hp.1, any_mono hs hp.2⟩) fun i y hy => ?_
    exact ⟨(h2 i y hy).1, (h2 i y hy).2.1⟩
theorem fr_ok {x : LocksX} (h : LocksOkP x) (hn : x.held.length + x.wait.length ≤ 100) (t : TxX) : LocksOkP ⟨(x.fr t).h, (x.fr t).s⟩ := by
  have hi := fr_inv h t
  refine ⟨?_, hi.held, hi.wait⟩
  have h0 := h.1
  rw [w64 (by omega) (by omega)] at h0
  obtain ⟨h1, _⟩ := frRun_len (x.held.filter (notTx t)) (x.wait.filter (notTx t))
  have h3 := List.length_filter_le (notTx t) x.held
  have h4 := List.length_filter_le (notTx t) x.wait
  have h5 : (x.fr t).h.length + (x.fr t).s.length = (x.held.filter (notTx t)).length + (x.wait.filter (notTx t)).length := h1
  show IntKind.i64.wrap (((x.fr t).h.length : Int) + (x.fr t).s.length) ≤ 60
  rw [w64 (by omega) (by omega)]
  omega
theorem fr_row {x : LocksX} (h : LocksOkP x) (t : TxX) : ((x.fr t).g).Sublist x.wait := (fr_inv h t).row.trans List.filter_sublist
theorem fr_has {x : LocksX} (h : LocksOkP x) (hn : x.held.length + x.wait.length ≤ 100) (t : TxX) {y : LockX} (hy : y ∈ (x.fr t).g) : HasP ⟨⟨(x.fr t).h, (x.fr t).s⟩, y.tx, y.rng, y.ex⟩ := by
  have hi := fr_inv h t
  refine ⟨fr_ok h hn t, ?_⟩
  have hm := hi.got y hy
  refine List.any_eq_true.2 ⟨y, hm, ?_⟩
  obtain ⟨i, hy2⟩ := List.getElem?_of_mem hm
  have ok := (hi.held i y hy2).1
  show (txEq y.tx y.tx && withinB y.rng y.rng && (y.ex || !y.ex)) = true
  rw [txEq_iff.2 rfl]
  have hr : rangeOkB y.rng.lo y.rng.hi = true := by
    unfold lockOkB at ok
    rw [Bool.and_eq_true] at ok
    exact ok.2
  have h2 : strLt y.rng.lo y.rng.lo = false := by rw [strLt_flip, strEq_refl, Bool.or_true]; rfl
  have h3 : strEq y.rng.hi y.rng.hi = true := strEq_refl _
  unfold withinB
  rw [hr, h2, h3]
  cases emp y.rng.hi <;> cases y.ex <;> cases strLt y.rng.hi y.rng.hi <;> rfl
/-- The match of a row with a longer one in which it lies. -/
theorem sub_hit {g w : List LockX} {a i : Nat} {y z : LockX} (h : (g.drop a).Sublist (w.drop i)) (hy : w[i]? = some y) (hz : g[a]? = some z) (e : z = y) : (g.drop (a + 1)).Sublist (w.drop (i + 1)) := by
  have h1 := (List.getElem?_eq_some_iff.1 hy).1
  have h2 := (List.getElem?_eq_some_iff.1 hz).1
  rw [List.drop_eq_getElem_cons h1, List.drop_eq_getElem_cons h2] at h
  have e1 : w[i] = y := (List.getElem?_eq_some_iff.1 hy).2
  have e2 : g[a] = z := (List.getElem?_eq_some_iff.1 hz).2
  rw [e1, e2, e] at h
  exact List.cons_sublist_cons.1 h
theorem sub_miss {g w : List LockX} {a i : Nat} {y z : LockX} (h : (g.drop a).Sublist (w.drop i)) (hy : w[i]? = some y) (hz : g[a]? = some z) (e : z ≠ y) : (g.drop a).Sublist (w.drop (i + 1)) := by
  have h1 := (List.getElem?_eq_some_iff.1 hy).1
  have h2 := (List.getElem?_eq_some_iff.1 hz).1
  rw [List.drop_eq_getElem_cons h1, List.drop_eq_getElem_cons h2] at h
  have e1 : w[i] = y := (List.getElem?_eq_some_iff.1 hy).2
  have e2 : g[a] = z := (List.getElem?_eq_some_iff.1 hz).2
  rw [List.drop_eq_getElem_cons h2, e2]
  rw [e1, e2] at h
  generalize g.drop (a + 1) = G at *
  generalize w.drop (i + 1) = W at *
  cases h with
  | cons _ h => exact h
  | cons_cons _ h => exact absurd rfl e
theorem sub_done {g w : List LockX} {a i : Nat} (h : g.length ≤ a) : (g.drop a).Sublist (w.drop (i + 1)) := by
  rw [List.drop_eq_nil_of_le h]; exact List.nil_sublist _
theorem sub_end {g w : List LockX} {a : Nat} (h : (g.drop a).Sublist (w.drop w.length)) : g.length ≤ a := by
  rw [List.drop_length] at h
  have := List.eq_nil_of_sublist_nil h
  exact List.drop_eq_nil_iff.1 this
theorem lockEq_iff (q z : LockX) : (q.tx.c == z.tx.c && (q.tx.e == z.tx.e && (q.tx.n == z.tx.n && (strEq q.rng.lo z.rng.lo && (strEq q.rng.hi z.rng.hi && (q.ex == z.ex && true)))))) = true ↔ q = z := by
  obtain ⟨⟨a, b, c⟩, ⟨d, e⟩, f⟩ := q
  obtain ⟨⟨a', b', c'⟩, ⟨d', e'⟩, f'⟩ := z
  simp [strEq_iff, and_assoc]
theorem ev_lawFree : ∀ x, evFnX tab [(60, cDrawLF), (54, cLockFree), (53, cLockFree), (44, cLockHas), (30, cLocksOk)] cLawB Try.f12 (body Try.f12) x := by
  rintro ⟨l⟩
  conv => whnf
  intro _
  conv => whnf
  refine br2 (fun h0 => ?_) (fun h0 => ?_)
  · conv => whnf
    exact ⟨⟨rfl, rfl⟩⟩
  have hb : l.length ≤ 1048576 := by have h1 : ¬ (l.length : Int) > 1048576 := of_decide_eq_false h0; omega
  clear h0
  conv => whnf
  refine ⟨⟨l, hb⟩, rfl, ?_⟩
  rintro _ _ ⟨rfl, x, t, hx, rfl⟩
  obtain ⟨xh, w⟩ := x
  replace hx : xh.length + w.length ≤ 100 := hx
  conv => whnf
  refine ⟨⟨⟨xh, w⟩, t, show xh.length ≤ 1048576 by omega, show w.length ≤ 1048576 by omega⟩, rfl, ?_⟩
  rintro _ _ ⟨rfl, y, g, rfl, e1⟩
  conv => whnf
  refine ⟨⟨⟨xh, w⟩, t, show xh.length ≤ 1048576 by omega, show w.length ≤ 1048576 by omega⟩, rfl, ?_⟩
  rintro _ _ ⟨rfl, y', g', rfl, e2⟩
  obtain ⟨rfl, rfl⟩ := e1.same e2
  clear e2
  have sub : g.Sublist w := by
    by_cases h : LocksOkP ⟨xh, w⟩
    · rw [(e1.yes h).2]; exact fr_row h t
    · rw [(e1.no h).2]; exact List.nil_sublist _
  have has : ∀ z ∈ g, HasP ⟨y, z.tx, z.rng, z.ex⟩ := by
    intro z hz
    by_cases h : LocksOkP ⟨xh, w⟩
    · obtain ⟨a, b⟩ := e1.yes h
      subst a b
      exact fr_has h hx t hz
    · rw [(e1.no h).2] at hz; cases hz
  have ok : LocksOkP y := by
    by_cases h : LocksOkP ⟨xh, w⟩
    · rw [(e1.yes h).1]; exact fr_ok h hx t
    · rw [(e1.no h).1]; exact ⟨by decide, fun i z h => by simp at h, fun i z h => by simp at h⟩
  have ne : y.held.length = 0 → g.length = 0 := by
    intro h
    cases g with
    | nil => rfl
    | cons z g =>
      have h2 := (has z (List.mem_cons_self ..)).2
      rw [List.eq_nil_of_length_eq_zero h] at h2
      cases h2
  obtain ⟨n1, n2⟩ := e1.len
  replace n1 : y.held.length + y.wait.length ≤ xh.length + w.length := n1
  replace n2 : g.length ≤ w.length := n2
  clear e1
  conv => whnf
  intro _
  conv => whnf
  intro _
  conv => whnf
  refine br2 (fun h => ?_) (fun _ => ?_)
  · exfalso
    replace h : ((g.length : Int) != (g.length : Int)) = true := h
    simp at h
  conv => whnf
  intro _
  conv => whnf
  let S1 (i a : Nat) : Sl := [(42, .lf (.int .i64 i)), (41, .lf (.int .i64 w.length)), (40, .sl 305 none), (9, .lf (.int .i64 a)), (6, .sl 402 none), (5, .pt 80 0 0)]
  let H1 : Hp := [(402, some (.row .own 6 LockX.ds g)), (305, some (.row .own 6 LockX.ds w)), (80, some (.arr true 2 [[.sl 400 none, .sl 401 none]])), (400, some (.row .own 6 LockX.ds y.held)), (401, some (.row .own 6 LockX.ds y.wait))]
  refine ⟨fun m s h => ∃ i a : Nat, i ≤ w.length ∧ a ≤ g.length ∧ (g.drop a).Sublist (w.drop i) ∧ m = w.length - i ∧ s = S1 i a ∧ h = H1,
    w.length, [(402, 402), (305, 305), (80, 80), (400, 400), (401, 401)], S1 0 0, H1, ⟨rfl, ⟨rfl, rfl, rfl, rfl, rfl, rfl, trivial⟩, rfl, rfl, rfl, rfl, rfl, trivial⟩, ⟨0, 0, by omega, by omega, sub, rfl, rfl, rfl⟩, ?_⟩
  rintro m _ _ ⟨i, a, g1, g2, g3, rfl, rfl, rfl⟩
  conv => whnf
  refine br2 (fun h5 => ?_) (fun h5 => ?_)
  · have hi : i < w.length := by have := of_decide_eq_true h5; omega
    obtain ⟨z, hz⟩ := getL hi
    have hlt : (i : Int) < (w.length : Int) := by omega
    conv => whnf
    refine ⟨Int.natCast_nonneg _, hlt, ?_⟩
    conv => whnf
    refine ex2 z (nthI hz) ?_
    conv => whnf
    intro _
    conv => whnf
    have hw : V.lf (.int .i64 (IntKind.i64.wrap ((i : Int) + 1))) = V.lf (.int .i64 ((i + 1 : Nat) : Int)) := by rw [w64 (by omega) (by omega)]; rfl
    refine br2 (fun h6 => ?_) (fun h6 => ?_)
    · have ha : a < g.length := by have := of_decide_eq_true h6; omega
      obtain ⟨q, hq⟩ := getL ha
      have hlq : (a : Int) < (g.length : Int) := by omega
      conv => whnf
      repeat (refine rc_i rfl ?_; conv => whnf)
      refine ⟨Int.natCast_nonneg _, hlq, ?_⟩
      conv => whnf
      repeat (refine rc_i rfl ?_; conv => whnf)
      refine ex2 q (nthI hq) ?_
      conv => whnf
      repeat (refine rc_i (by (conv => whnf); first | rfl | exact ⟨Int.natCast_nonneg _, hlq, rfl⟩ | exact ex2 _ (nthI hq) rfl) ?_; conv => whnf)
      refine br2 (fun h7 => ?_) (fun h7 => ?_)
      · have e4 := (lockEq_iff q z).1 h7
        have hw2 : V.lf (.int .i64 (IntKind.i64.wrap ((a : Int) + 1))) = V.lf (.int .i64 ((a + 1 : Nat) : Int)) := by rw [w64 (by omega) (by omega)]; rfl
        conv => whnf
        repeat (refine rc_i rfl ?_; conv => whnf)
        refine ⟨w.length - (i + 1), [(402, 402), (305, 305), (80, 80), (400, 400), (401, 401)], S1 (i + 1) (a + 1), H1, by omega, ⟨rfl, ⟨hw, rfl, rfl, hw2, rfl, rfl, trivial⟩, rfl, rfl, rfl, rfl, rfl, trivial⟩, i + 1, a + 1, by omega, by omega, sub_hit g3 hz hq e4, rfl, rfl, rfl⟩
      · have e4 : q ≠ z := fun e => by have := h7.symm.trans ((lockEq_iff q z).2 e); cases this
        conv => whnf
        repeat (refine rc_i rfl ?_; conv => whnf)
        refine ⟨w.length - (i + 1), [(402, 402), (305, 305), (80, 80), (400, 400), (401, 401)], S1 (i + 1) a, H1, by omega, ⟨rfl, ⟨hw, rfl, rfl, rfl, rfl, rfl, trivial⟩, rfl, rfl, rfl, rfl, rfl, trivial⟩, i + 1, a, by omega, g2, sub_miss g3 hz hq e4, rfl, rfl, rfl⟩
    · have ha : g.length ≤ a := by have := of_decide_eq_false h6; omega
      conv => whnf
      repeat (refine rc_i rfl ?_; conv => whnf)
      refine ⟨w.length - (i + 1), [(402, 402), (305, 305), (80, 80), (400, 400), (401, 401)], S1 (i + 1) a, H1, by omega, ⟨rfl, ⟨hw, rfl, rfl, rfl, rfl, rfl, trivial⟩, rfl, rfl, rfl, rfl, rfl, trivial⟩, i + 1, a, by omega, g2, sub_done ha, rfl, rfl, rfl⟩
  · have hi : i = w.length := by have := of_decide_eq_false h5; omega
    subst hi
    have ha : a = g.length := by have := sub_end g3; omega
    subst ha
    conv => whnf
    intro _
    conv => whnf
    let S2 (i : Nat) : Sl := [(63, .lf (.int .i64 i)), (62, .lf (.int .i64 g.length)), (61, .sl 402 none), (9, .lf (.int .i64 g.length)), (6, .sl 402 none), (5, .pt 80 0 0)]
    let H2 : Hp := [(402, some (.row .own 6 LockX.ds g)), (80, some (.arr true 2 [[.sl 400 none, .sl 401 none]])), (400, some (.row .own 6 LockX.ds y.held)), (401, some (.row .own 6 LockX.ds y.wait))]
    refine ⟨fun m s h => ∃ i : Nat, i ≤ g.length ∧ m = g.length - i ∧ s = S2 i ∧ h = H2,
      g.length, [(402, 402), (80, 80), (400, 400), (401, 401)], S2 0, H2, ⟨rfl, ⟨rfl, rfl, rfl, rfl, rfl, rfl, trivial⟩, rfl, rfl, rfl, rfl, trivial⟩, ⟨0, by omega, rfl, rfl, rfl⟩, ?_⟩
    rintro m _ _ ⟨i, g1, rfl, rfl, rfl⟩
    conv => whnf
    refine br2 (fun h5 => ?_) (fun h5 => ?_)
    · have hi : i < g.length := by have := of_decide_eq_true h5; omega
      obtain ⟨z, hz⟩ := getL hi
      conv => whnf
      refine ⟨Int.natCast_nonneg _, (show (i : Int) < (g.length : Int) by omega), ?_⟩
      conv => whnf
      refine ex2 z (nthI hz) ?_
      conv => whnf
      refine ⟨⟨y, z.tx, z.rng, z.ex⟩, rfl, ?_⟩
      rintro _ _ ⟨rfl, b, rfl, e3⟩
      obtain rfl : b = true := e3.2 (has z (List.mem_of_getElem? hz))
      conv => whnf
      have hw : V.lf (.int .i64 (IntKind.i64.wrap ((i : Int) + 1))) = V.lf (.int .i64 ((i + 1 : Nat) : Int)) := by rw [w64 (by omega) (by omega)]; rfl
      exact ⟨g.length - (i + 1), [(402, 402), (80, 80), (400, 400), (401, 401)], S2 (i + 1), H2, by omega, ⟨rfl, ⟨hw, rfl, rfl, rfl, rfl, rfl, trivial⟩, rfl, rfl, rfl, rfl, trivial⟩, i + 1, by omega, rfl, rfl, rfl⟩
    · conv => whnf
      intro _
      conv => whnf
      refine br2 (fun _ => ?_) (fun h => ?_)
      · conv => whnf
        refine ⟨y, rfl, ?_⟩
        rintro _ _ ⟨rfl, b, rfl, e3⟩
        obtain rfl : b = true := e3.2 ok
        conv => whnf
        intro _
        conv => whnf
        intro _
        conv => whnf
        refine br2 (fun h7 => ?_) (fun h7 => ?_)
        · conv => whnf
          exact ⟨⟨rfl, rfl⟩⟩
        · have h8 : ¬ IntKind.i64.wrap ((y.held.length : Int) + (y.wait.length : Int)) > 0 := of_decide_eq_false h7
          rw [w64 (by omega) (by omega)] at h8
          have h9 := ne (by omega)
          conv => whnf
          intro _
          conv => whnf
          refine ⟨⟨rfl, ?_⟩⟩
          show [[D.lf (.bool ((g.length : Int) == 0))]] = _
          rw [h9]; rfl
      · exfalso
        replace h : ((g.length : Int) == (g.length : Int)) = false := h
        simp at h
theorem lawFree_ok : FnOk Try.prog 12 cLawB := fnOk_of fun x => fnX_at tab_ok (SOk.cons DrawLockFree_ok (SOk.cons iLockFree_ok (SOk.cons sLockFree_ok (SOk.cons iLockHas_ok (SOk.cons iLocksOk_ok SOk.nil))))) mixed (fn := Try.f12) (code := body Try.f12) ⟨Try.func12, rfl, by kernel_rfl, by kernel_rfl, by kernel_rfl, by kernel_rfl⟩ (ev_lawFree x)
end Go.Vm
