/- Contracts: what is written for transactions, gathered by the reference. -/
import Derived.Test.YtedffkngbjlgdaaGreatDoorKb
import Derived.Test.YtedffkngbjlgdaaGreatDoorKa
namespace Go.Vm
open Go.Proofs
set_option maxRecDepth 100000
set_option linter.unusedVariables false
set_option linter.unusedSimpArgs false
set_option maxHeartbeats 8000000

def PrepsT (N : List NodeX) (P : List PrpX) : Prop := ∃ l, AllR N l ∧ PrepsR l P
theorem PrepsT.same {N : List NodeX} {P Q : List PrpX} (h : PrepsT N P) (h' : PrepsT N Q) : P = Q := by
  obtain ⟨l, h1, h2⟩ := h
  obtain ⟨l', h3, h4⟩ := h'
  rw [h1.uniq h3] at h2
  exact h2.same h4
def cPreps : Con := relC TreeX [(.rd, true)] [false] (fun t => [[.row 3 NodeX.ds t.N]]) (fun t r => ∃ P : List PrpX, r = [[.row 4 encP P]] ∧ PrepsT t.N P)
theorem ev_iPreps : ∀ x, evFnX tab [(32, cTreeAll), (33, cPreps0)] cPreps Tryz.f17 (body Tryz.f17) x := by
  rintro ⟨N, f, hf, hN, hp⟩
  conv => whnf
  refine ⟨⟨N, f, hf, hN, hp⟩, rfl, ?_⟩
  rintro _ _ ⟨rfl, l, rfl, ha⟩
  conv => whnf
  replace ha : AllR N l := ha
  refine ⟨⟨l, ha.okk⟩, rfl, ?_⟩
  rintro _ _ ⟨rfl, P, rfl, hP⟩
  conv => whnf
  exact ⟨⟨rfl, P, rfl, l, ha, hP⟩⟩
theorem iPreps_ok : FnOk Tryz.prog 17 cPreps := fnOk_of fun x => fnX_at tab_ok (SOk.cons iTreeAll_ok (SOk.cons iPreps0_ok SOk.nil)) mixed (fn := Tryz.f17) (code := body Tryz.f17) ⟨Tryz.func17, rfl, by kernel_rfl, by kernel_rfl, by kernel_rfl, by kernel_rfl⟩ (ev_iPreps x)
/-- One transaction's place, or none any more. -/
def encPO : Option PrpX → List D
  | none => [.dead, .dead, .dead, .dead]
  | some p => encP p
theorem encPO_len (o : Option PrpX) : (encPO o).length = 4 := by cases o <;> rfl
theorem getS {α : Type} {l : List α} {i : Nat} {y : α} (h : l[i]? = some y) : (l.map some)[i]? = some (some y) := by rw [List.getElem?_map, h]; rfl
/-- Where a transaction goes: ahead of the first whose text is greater. -/
def PlaceI (x : TxX) (P : List PrpX) (i a : Nat) : Prop := (a = P.length ∨ a < i ∧ ∃ p, P[a]? = some p ∧ strLt (txT x) (txT p.1) = true) ∧ ∀ p ∈ P.take (min i a), strLt (txT x) (txT p.1) = false
theorem PlaceI.no {x : TxX} {P : List PrpX} {i a : Nat} {p : PrpX} (h : PlaceI x P i a) (hp : P[i]? = some p) (h1 : a ≤ i ∨ strLt (txT x) (txT p.1) = false) : PlaceI x P (i + 1) a := by
  have hi := (List.getElem?_eq_some_iff.1 hp).1
  refine ⟨h.1.imp id fun ⟨b, c⟩ => ⟨by omega, c⟩, fun q hq => ?_⟩
  rcases Nat.lt_or_ge i a with h2 | h2
  · rw [show min (i + 1) a = i + 1 by omega, List.take_add_one, hp] at hq
    have h3 := h.2
    rw [show min i a = i by omega] at h3
    rcases List.mem_append.1 hq with hq | hq
    · exact h3 q hq
    · simp at hq; subst hq
      rcases h1 with h1 | h1
      · omega
      · exact h1
  · have h3 := h.2
    rw [show min i a = a by omega] at h3
    rw [show min (i + 1) a = a by omega] at hq
    exact h3 q hq
theorem PlaceI.yes {x : TxX} {P : List PrpX} {i a : Nat} {p : PrpX} (h : PlaceI x P i a) (hp : P[i]? = some p) (h1 : i < a) (h2 : strLt (txT x) (txT p.1) = true) : PlaceI x P (i + 1) i := by
  refine ⟨.inr ⟨by omega, p, hp, h2⟩, fun q hq => ?_⟩
  have h3 := h.2
  rw [show min i a = i by omega] at h3
  rw [show min (i + 1) i = i by omega] at hq
  exact h3 q hq
/-- The records of the first k numbers. -/
noncomputable def recsTo (all : List (Und TxX RecX)) (x : TxX) (k : Nat) : List RecX := (List.range k).flatMap fun n => (all.filter fun u => decide (u.1 = x ∧ u.2.1 = n)).map fun u => u.2.2
theorem recsTo_succ (all : List (Und TxX RecX)) (x : TxX) (k : Nat) : recsTo all x (k + 1) = recsTo all x k ++ (all.filter fun u => decide (u.1 = x ∧ u.2.1 = k)).map fun u => u.2.2 := by
  unfold recsTo
  rw [List.range_succ, List.flatMap_append]; simp
noncomputable def recsAt (l : List RngX) (x : TxX) (k j : Nat) : List RecX := ((((undL (l.take j)).map UnX.u).filter fun u => decide (u.1 = x ∧ u.2.1 = k)).map fun u => u.2.2)
theorem recsAt_zero (l : List RngX) (x : TxX) (k : Nat) : recsAt l x k 0 = [] := by
  unfold recsAt
  rw [List.take_zero]; rfl
theorem recsAt_no {l : List RngX} {x : TxX} {k j : Nat} {y : RngX} (hy : l[j]? = some y) (h : ∀ u, undP y = some u → ¬ (u.tx = x ∧ u.num.toNat = k)) : recsAt l x k (j + 1) = recsAt l x k j := by
  unfold recsAt
  rw [undL_take hy]
  cases e : undP y with
  | none => simp
  | some u =>
    have := h u e
    have h2 : decide (u.u.1 = x ∧ u.u.2.1 = k) = false := decide_eq_false this
    simp only [Option.toList, List.map_append, List.filter_append, List.map_cons, List.map_nil, List.filter_cons, List.filter_nil, h2]
    simp
theorem recsAt_yes {l : List RngX} {x : TxX} {k j : Nat} {y : RngX} {u : UnX} (hy : l[j]? = some y) (e : undP y = some u) (h : u.tx = x ∧ u.num.toNat = k) : recsAt l x k (j + 1) = recsAt l x k j ++ [u.rr] := by
  unfold recsAt
  rw [undL_take hy, e]
  have h2 : decide (u.u.1 = x ∧ u.u.2.1 = k) = true := decide_eq_true h
  simp only [Option.toList, List.map_append, List.filter_append, List.map_cons, List.map_nil, List.filter_cons, List.filter_nil, h2]
  rfl
theorem take_cons_map {P : List PrpX} {a : Nat} {q : PrpX} (ha : a ≤ P.length) (n : Nat) {k : Nat} (hk : P.length ≤ a + k) :
    ((((P.map some).take a ++ List.replicate n none ++ (P.map some).drop (a + n)).drop 0).take a ++ [some q]) ++ ([] ++ ((P.map some).drop a).take k) = (P.take a ++ q :: P.drop a).map some := by
  have h1 : ((P.map some).take a).length = a := by rw [List.length_take, List.length_map]; omega
  have e1 : (((P.map some).take a ++ List.replicate n none ++ (P.map some).drop (a + n)).drop 0).take a = (P.take a).map some := by
    rw [List.drop_zero, List.append_assoc, List.take_append_of_le_length (by omega), List.take_of_length_le (by omega), List.map_take]
  have e2 : ((P.map some).drop a).take k = (P.drop a).map some := by
    rw [List.take_of_length_le (by rw [List.length_drop, List.length_map]; omega), List.map_drop]
  rw [e1, e2]
  simp
/-- A part of a function's code. -/
def cAt : List Nat → Code → Code
  | [], c => c
  | 1 :: p, .seq a _ => cAt p a
  | 2 :: p, .seq _ b => cAt p b
  | 3 :: p, .block _ c => cAt p c
  | 4 :: p, .loop c => cAt p c
  | 5 :: p, .cond _ a _ => cAt p a
  | 6 :: p, .cond _ _ b => cAt p b
  | _, c => c
abbrev pSS : Cons := [(1000003, cGh), (1000019, cGh), (1000032, cGh), (29, cTreeAll), (30, cRead8), (40, cTxText)]
def pH0 (l : List RngX) (q : List PrpX) : Hp := [(400, some (.row .own 2 RngX.ds l)), (368, some (.row .own 4 encPO (q.map some)))]
def pH1 (l : List RngX) (P : List PrpX) (x : TxX) : Hp := (112, some (.arr true 3 [[.lf (.int .i64 x.c), .lf (.int .i64 x.e), .lf (.int .i64 x.n)]])) :: pH0 l P
def pS1 (l : List RngX) (P : List PrpX) (i : Nat) (kn : Bool) (a j : Nat) : Sl := [(45, .lf (.int .i64 j)), (44, .lf (.int .i64 ((P.map some).length : Int))), (12, .lf (.int .i64 a)), (11, .lf (.bool kn)), (7, .pt 112 0 0), (28, .lf (.int .i64 i)), (27, .lf (.int .i64 l.length)), (26, .sl 400 none), (4, .sl 400 none), (3, .sl 368 none)]
def pS2 (l : List RngX) (i a k : Nat) : Sl := [(15, .lf (.int .i64 k)), (14, .pt 224 0 0), (12, .lf (.int .i64 a)), (7, .pt 112 0 0), (28, .lf (.int .i64 i)), (27, .lf (.int .i64 l.length)), (26, .sl 400 none), (4, .sl 400 none), (3, .sl 368 none)]
def pS3 (l : List RngX) (i a k j : Nat) : Sl := (80, .lf (.int .i64 j)) :: (79, .lf (.int .i64 l.length)) :: (78, .sl 400 none) :: pS2 l i a k
def pH2 (l : List RngX) (P : List PrpX) (x : TxX) (rs : List RecX) : Hp := (224, some (.arr true 4 [[.lf (.int .i64 x.c), .lf (.int .i64 x.e), .lf (.int .i64 x.n), .sl 16000 none]])) :: (16000, some (.row .own 5 RecX.ds rs)) :: (112, some (.arr true 3 [[.lf (.int .i64 x.c), .lf (.int .i64 x.e), .lf (.int .i64 x.n)]])) :: pH0 l P
section
variable {l : List RngX} {P : List PrpX} {x : TxX} {i a : Nat} {K : E → Sl → Hp → Prop}
theorem p6_body6 (hP : PairsOkP l) {k : Nat} (hk : k < 16) {rs rs' : List RecX} {j : Nat} (e3 : j ≤ l.length) (e4 : rs' = rs ++ recsAt l x k j) (e5 : rs'.length ≤ 200 * k + j)
    (hN : j < l.length → ∀ s h ρ rs2, rs2 = rs ++ recsAt l x k (j + 1) → rs2.length ≤ 200 * k + (j + 1) → Le ρ (pS3 l i a k (j + 1)) (pH2 l P x rs2) s h → K .normal s h) (hE : j = l.length → ∀ v, K (.exit 6) ((81, .lf (.bool false)) :: (81, .lf (.bool v)) :: pS3 l i a k j) (pH2 l P x rs')) : evX tab pSS (cAt [2, 2, 2, 1, 2, 3, 4, 2, 2, 1, 3, 2, 2, 2, 2, 2, 2, 2, 1, 2, 3, 4, 2, 1, 3, 2, 3, 4] (body Tryz.f16)) (pS3 l i a k j) (pH2 l P x rs') K := by
  have hl : l.length ≤ 200 := hP.len
  conv => whnf
  refine br2 (fun h7 => ?_) (fun h7 => ?_)
  · have hj : j < l.length := by have := of_decide_eq_true h7; omega
    obtain ⟨q, hq⟩ := getL hj
    have cc := pairs_prX hP (List.mem_of_getElem? hq)
    have hincJ := incI hj (show l.length ≤ 9223372036854775807 by omega)
    have backJ : ∀ {s' : Sl} {h' : Hp} (ρ : List (Nat × Nat)) (rs2 : List RecX), rs2 = rs ++ recsAt l x k (j + 1) → rs2.length ≤ 200 * k + (j + 1) → Le ρ (pS3 l i a k (j + 1)) (pH2 l P x rs2) s' h' → K .normal s' h' := fun ρ rs2 q1 q2 hle => hN hj _ _ ρ rs2 q1 q2 hle
    have stay : (∀ u, undP q = some u → ¬ (u.tx = x ∧ u.num.toNat = k)) → rs' = rs ++ recsAt l x k (j + 1) := fun h => by rw [recsAt_no hq h]; exact e4
    conv => whnf
    refine ⟨Int.natCast_nonneg _, ltI hq, ?_⟩
    conv => whnf
    refine ex2 _ (nthI hq) ?_
    conv => whnf
    refine ⟨⟨q, cc.1, cc.2.1, cc.2.2⟩, rfl, ?_⟩
    rintro _ _ ⟨rfl, x', n', r', ok', rfl, d1, d2⟩
    conv => whnf
    replace d1 : ok' = true → undP q = some ⟨q.lo, x', n', r'⟩ := d1
    replace d2 : ok' = false → undP q = none ∧ x' = tx0 := d2
    cases ok' with
    | false =>
      conv => whnf
      refine backJ [(224, 224), (16000, 16000), (112, 112), (400, 400), (368, 368)] rs' (stay fun u hu => by rw [(d2 rfl).1] at hu; cases hu) (by omega) ⟨rfl, ⟨hincJ, rfl, rfl, rfl, rfl, rfl, rfl, rfl, rfl, rfl, rfl, rfl, trivial⟩, rfl, rfl, rfl, rfl, rfl, trivial⟩
    | true =>
      have hu' := d1 rfl
      have hn' := (undP_is hu').num
      replace hn' : 0 ≤ n' ∧ n' < 16 := hn'
      conv => whnf
      refine br2 (fun h8 => ?_) (fun h8 => ?_)
      · have h8' : x' = x := txEq_iff.1 h8
        conv => whnf
        refine br2 (fun h9 => ?_) (fun h9 => ?_)
        · have h9' : n' = (k : Int) := by
            replace h9 : (n' == (k : Int)) = true := h9
            simpa using h9
          conv => whnf
          refine ⟨[r'], rfl, (show rs'.length + 1 ≤ 4294967296 by omega), ?_⟩
          conv => whnf
          refine backJ [(224, 224), (1696, 16000), (112, 112), (400, 400), (368, 368)] (rs' ++ [r']) ?_ (by rw [List.length_append]; simp; omega) ⟨rfl, ⟨hincJ, rfl, rfl, rfl, rfl, rfl, rfl, rfl, rfl, rfl, rfl, rfl, trivial⟩, rfl, rfl, rfl, rfl, rfl, trivial⟩
          rw [recsAt_yes hq hu' ⟨h8', by show n'.toNat = k; omega⟩, e4]; simp
        · have h9' : n' ≠ (k : Int) := by
            replace h9 : (n' == (k : Int)) = false := h9
            simpa using h9
          conv => whnf
          refine backJ [(224, 224), (16000, 16000), (112, 112), (400, 400), (368, 368)] rs' (stay fun u hu => by rw [hu'] at hu; cases hu; rintro ⟨_, e⟩; replace e : n'.toNat = k := e; omega) (by omega) ?_
          exact ⟨rfl, ⟨hincJ, rfl, rfl, rfl, rfl, rfl, rfl, rfl, rfl, rfl, rfl, rfl, trivial⟩, rfl, rfl, rfl, rfl, rfl, trivial⟩
      · have h8' : x' ≠ x := fun e => by
          replace h8 : txEq x' x = false := h8
          rw [txEq_iff.2 e] at h8; cases h8
        conv => whnf
        refine backJ [(224, 224), (16000, 16000), (112, 112), (400, 400), (368, 368)] rs' (stay fun u hu => by rw [hu'] at hu; cases hu; rintro ⟨e, _⟩; exact h8' e) (by omega) ?_
        exact ⟨rfl, ⟨hincJ, rfl, rfl, rfl, rfl, rfl, rfl, rfl, rfl, rfl, rfl, rfl, trivial⟩, rfl, rfl, rfl, rfl, rfl, trivial⟩
  · have hj : j = l.length := by have := of_decide_eq_false h7; omega
    conv => whnf
    exact hE hj _
theorem p6_body4 (hP : PairsOkP l) {k : Nat} {rs : List RecX} (e0 : k ≤ 16) (e1 : rs = recsTo ((undL l).map UnX.u) x k) (e2 : rs.length ≤ 200 * k)
    (hN : k < 16 → ∀ s h ρ rs2, rs2 = recsTo ((undL l).map UnX.u) x (k + 1) → rs2.length ≤ 200 * (k + 1) → Le ρ (pS2 l i a (k + 1)) (pH2 l P x rs2) s h → K .normal s h) (hE : k = 16 → ∀ v, K (.exit 4) ((75, .lf (.bool false)) :: (75, .lf (.bool v)) :: (74, .lf (.int .i64 k)) :: pS2 l i a k) (pH2 l P x rs)) : evX tab pSS (cAt [2, 2, 2, 1, 2, 3, 4, 2, 2, 1, 3, 2, 2, 2, 2, 2, 2, 2, 1, 2, 3, 4] (body Tryz.f16)) (pS2 l i a k) (pH2 l P x rs) K := by
  have hl : l.length ≤ 200 := hP.len
  conv => whnf
  refine br2 (fun h6 => ?_) (fun h6 => ?_)
  · have hk : k < 16 := by have := of_decide_eq_true h6; omega
    have hrl : (recsAt l x k l.length).length ≤ l.length := by
      unfold recsAt
      rw [List.length_map]
      refine Nat.le_trans (List.length_filter_le _ _) ?_
      rw [List.length_map, List.take_length]
      exact undL_len l
    conv => whnf
    intro _
    conv => whnf
    refine ⟨fun z s h => ∃ (j : Nat) (rs' : List RecX), j ≤ l.length ∧ rs' = rs ++ recsAt l x k j ∧ rs'.length ≤ 200 * k + j ∧ z = l.length - j ∧ s = pS3 l i a k j ∧ h = pH2 l P x rs', l.length, [(224, 224), (16000, 16000), (112, 112), (400, 400), (368, 368)], pS3 l i a k 0, pH2 l P x rs, ⟨rfl, ⟨rfl, rfl, rfl, rfl, rfl, rfl, rfl, rfl, rfl, rfl, rfl, rfl, trivial⟩, rfl, rfl, rfl, rfl, rfl, trivial⟩, ⟨0, rs, by omega, by rw [recsAt_zero, List.append_nil], by omega, rfl, rfl, rfl⟩, ?_⟩
    rintro z _ _ ⟨j, rs', e3, e4, e5, rfl, rfl, rfl⟩
    refine p6_body6 hP hk e3 e4 e5 (fun hj s h ρ rs2 q1 q2 hle => ⟨l.length - (j + 1), ρ, _, _, by omega, hle, j + 1, rs2, hj, q1, q2, rfl, rfl, rfl⟩) (fun hj v => ?_)
    subst hj
    subst e4
    conv => whnf
    refine hN hk _ _ [(224, 224), (16000, 16000), (112, 112), (400, 400), (368, 368)] (rs ++ recsAt l x k l.length) ?_ (by rw [List.length_append]; omega) ⟨rfl, ⟨?_, rfl, rfl, rfl, rfl, rfl, rfl, rfl, rfl, trivial⟩, rfl, rfl, rfl, rfl, rfl, trivial⟩
    · rw [recsTo_succ, ← e1]
      unfold recsAt
      rw [List.take_length]
    · show V.lf (.int .i64 (IntKind.i64.wrap ((k : Int) + 1))) = _
      rw [w64 (by omega) (by omega)]; rfl
  · have hk : k = 16 := by have := of_decide_eq_false h6; omega
    conv => whnf
    exact hE hk _
theorem p6_body2 {ok : Bool} (hPl : P.length ≤ 9223372036854775807) {kn : Bool} {a j : Nat} (f0 : j ≤ P.length) (f1 : kn = true ↔ ok = false ∨ ∃ p ∈ P.take j, p.1 = x) (f2 : PlaceI x P j a)
    (hN : j < P.length → ∀ s h kn' a' ρ, (kn' = true ↔ ok = false ∨ ∃ p ∈ P.take (j + 1), p.1 = x) → PlaceI x P (j + 1) a' → Le ρ (pS1 l P i kn' a' (j + 1)) (pH1 l P x) s h → K .normal s h) (hE : j = P.length → ∀ v, K (.exit 2) ((46, .lf (.bool false)) :: (46, .lf (.bool v)) :: pS1 l P i kn a j) (pH1 l P x)) : evX tab pSS (cAt [2, 2, 2, 1, 2, 3, 4, 2, 2, 1, 3, 2, 2, 2, 2, 1, 2, 3, 4] (body Tryz.f16)) (pS1 l P i kn a j) (pH1 l P x) K := by
  conv => whnf
  refine br2 (fun h6 => ?_) (fun h6 => ?_)
  · have hjl : j < P.length := by
      have h9 : (j : Int) < (((P.map some).length : Nat) : Int) := of_decide_eq_true h6
      rw [List.length_map] at h9; omega
    obtain ⟨p, hj⟩ := getL hjl
    have hjS := getS hj
    have ejj : ((j : Nat) : Int) = ((j : Nat) : Int) := rfl
    have hincJ := incI hjl hPl
    have backJ : ∀ {s' : Sl} {h' : Hp} (kn' : Bool) (a' : Nat) (ρ : List (Nat × Nat)), (kn' = true ↔ ok = false ∨ ∃ p ∈ P.take (j + 1), p.1 = x) → PlaceI x P (j + 1) a' → Le ρ (pS1 l P i kn' a' (j + 1)) (pH1 l P x) s' h' → K .normal s' h' := fun kn' a' ρ q1 q2 hle => hN hjl _ _ kn' a' ρ q1 q2 hle
    conv => whnf
    repeat' ((conv => whnf); first
      | refine rc_i rfl ?_
      | refine rc_i (fun _ => rfl) ?_
      | refine ⟨(ixE ejj hjS).1, (ixE ejj hjS).2, ?_⟩
      | refine ex2 _ (nthE ejj hjS) ?_
      | refine rc_i ⟨(ixE ejj hjS).1, (ixE ejj hjS).2, rfl⟩ ?_
      | refine rc_i (ex2 _ (nthE ejj hjS) rfl) ?_)
    refine br2 (fun h7 => ?_) (fun h7 => ?_)
    · have h7' : p.1 = x := txEq_iff.1 h7
      have kn' : (true = true ↔ ok = false ∨ ∃ p ∈ P.take (j + 1), p.1 = x) := by
        refine ⟨fun _ => .inr ⟨p, ?_, h7'⟩, fun _ => rfl⟩
        rw [List.take_add_one, hj]; simp
      conv => whnf
      refine br2 (fun h8 => ?_) (fun h8 => ?_)
      · have h8' : j < a := by have := of_decide_eq_true h8; omega
        repeat' ((conv => whnf); first
          | refine rc_i rfl ?_
          | refine rc_i (fun _ => rfl) ?_
          | refine ⟨(ixE ejj hjS).1, (ixE ejj hjS).2, ?_⟩
          | refine ex2 _ (nthE ejj hjS) ?_
          | refine rc_i ⟨(ixE ejj hjS).1, (ixE ejj hjS).2, rfl⟩ ?_
          | refine rc_i (ex2 _ (nthE ejj hjS) rfl) ?_
          | (refine ⟨x, rfl, ?_⟩; rintro _ _ ⟨rfl, rfl⟩)
          | (refine ⟨p.1, rfl, ?_⟩; rintro _ _ ⟨rfl, rfl⟩))
        refine br2 (fun h9 => ?_) (fun h9 => ?_)
        · conv => whnf
          refine backJ true j [(400, 400), (368, 368), (112, 112)] kn' (f2.yes hj h8' h9) ?_
          exact ⟨rfl, ⟨hincJ, rfl, rfl, rfl, rfl, rfl, rfl, rfl, rfl, rfl, trivial⟩, rfl, rfl, rfl, trivial⟩
        · conv => whnf
          refine backJ true a [(400, 400), (368, 368), (112, 112)] kn' (f2.no hj (.inr h9)) ?_
          exact ⟨rfl, ⟨hincJ, rfl, rfl, rfl, rfl, rfl, rfl, rfl, rfl, rfl, trivial⟩, rfl, rfl, rfl, trivial⟩
      · have h8' : a ≤ j := by have := of_decide_eq_false h8; omega
        conv => whnf
        repeat ((first | refine rc_i rfl ?_ | refine rc_i (fun _ => rfl) ?_); conv => whnf)
        refine backJ true a [(400, 400), (368, 368), (112, 112)] kn' (f2.no hj (.inl h8')) ?_
        exact ⟨rfl, ⟨hincJ, rfl, rfl, rfl, rfl, rfl, rfl, rfl, rfl, rfl, trivial⟩, rfl, rfl, rfl, trivial⟩
    · have h7' : p.1 ≠ x := fun e => by
        replace h7 : txEq p.1 x = false := h7
        rw [txEq_iff.2 e] at h7; cases h7
      have kn' : (kn = true ↔ ok = false ∨ ∃ p ∈ P.take (j + 1), p.1 = x) := by
        rw [f1, List.take_add_one, hj]
        refine or_congr_right ⟨fun ⟨q, hq, e⟩ => ⟨q, by simp [hq], e⟩, fun ⟨q, hq, e⟩ => ?_⟩
        rcases List.mem_append.1 hq with hq | hq
        · exact ⟨q, hq, e⟩
        · simp at hq; subst hq; exact absurd e h7'
      conv => whnf
      refine br2 (fun h8 => ?_) (fun h8 => ?_)
      · have h8' : j < a := by have := of_decide_eq_true h8; omega
        repeat' ((conv => whnf); first
          | refine rc_i rfl ?_
          | refine rc_i (fun _ => rfl) ?_
          | refine ⟨(ixE ejj hjS).1, (ixE ejj hjS).2, ?_⟩
          | refine ex2 _ (nthE ejj hjS) ?_
          | refine rc_i ⟨(ixE ejj hjS).1, (ixE ejj hjS).2, rfl⟩ ?_
          | refine rc_i (ex2 _ (nthE ejj hjS) rfl) ?_
          | (refine ⟨x, rfl, ?_⟩; rintro _ _ ⟨rfl, rfl⟩)
          | (refine ⟨p.1, rfl, ?_⟩; rintro _ _ ⟨rfl, rfl⟩))
        refine br2 (fun h9 => ?_) (fun h9 => ?_)
        · conv => whnf
          refine backJ kn j [(400, 400), (368, 368), (112, 112)] kn' (f2.yes hj h8' h9) ?_
          exact ⟨rfl, ⟨hincJ, rfl, rfl, rfl, rfl, rfl, rfl, rfl, rfl, rfl, trivial⟩, rfl, rfl, rfl, trivial⟩
        · conv => whnf
          refine backJ kn a [(400, 400), (368, 368), (112, 112)] kn' (f2.no hj (.inr h9)) ?_
          exact ⟨rfl, ⟨hincJ, rfl, rfl, rfl, rfl, rfl, rfl, rfl, rfl, rfl, trivial⟩, rfl, rfl, rfl, trivial⟩
      · have h8' : a ≤ j := by have := of_decide_eq_false h8; omega
        conv => whnf
        repeat ((first | refine rc_i rfl ?_ | refine rc_i (fun _ => rfl) ?_); conv => whnf)
        refine backJ kn a [(400, 400), (368, 368), (112, 112)] kn' (f2.no hj (.inl h8')) ?_
        exact ⟨rfl, ⟨hincJ, rfl, rfl, rfl, rfl, rfl, rfl, rfl, rfl, rfl, trivial⟩, rfl, rfl, rfl, trivial⟩
  have hjl : j = P.length := by
    have h9 : ¬ (j : Int) < (((P.map some).length : Nat) : Int) := of_decide_eq_false h6
    rw [List.length_map] at h9; omega
  conv => whnf
  exact hE hjl _
end
theorem ev_sPreps : ∀ x, evFnX tab [(1000003, cGh), (1000019, cGh), (1000032, cGh), (29, cTreeAll), (30, cRead8), (40, cTxText)] cPreps Tryz.f16 (body Tryz.f16) x := by
  rintro ⟨N, f, hf, hN, hp⟩
  conv => whnf
  refine ⟨⟨N, f, hf, hN, hp⟩, rfl, ?_⟩
  rintro _ _ ⟨rfl, l, rfl, ha⟩
  conv => whnf
  replace ha : AllR N l := ha
  have hP := ha.okk
  have hl : l.length ≤ 200 := hP.len
  refine ⟨[.row 368], ?_⟩
  conv => whnf
  refine ⟨Option PrpX, encPO, [], encPO_len, rfl, ?_⟩
  conv => whnf
  intro _
  conv => whnf
  let S0 : Nat → Sl := fun i => [(28, .lf (.int .i64 i)), (27, .lf (.int .i64 l.length)), (26, .sl 400 none), (4, .sl 400 none), (3, .sl 368 none)]
  let H0 : List PrpX → Hp := fun q => pH0 l q
  refine ⟨fun m s h => ∃ (i : Nat) (P : List PrpX), i ≤ l.length ∧ CanonS txT ((undL l).map UnX.u) ((undL (l.take i)).map UnX.u) P ∧ P.length ≤ i ∧ m = l.length - i ∧ s = S0 i ∧ h = H0 P, l.length, [(400, 400), (368, 368)], S0 0, H0 [], ⟨rfl, ⟨rfl, rfl, rfl, rfl, rfl, trivial⟩, rfl, rfl, trivial⟩, ⟨0, [], by omega, canonS_nil, by simp, by omega, rfl, rfl⟩, ?_⟩
  rintro m _ _ ⟨i, P, g1, g2, g3, rfl, rfl, rfl⟩
  conv => whnf
  refine br2 (fun h5 => ?_) (fun h5 => ?_)
  · have hi : i < l.length := by have := of_decide_eq_true h5; omega
    obtain ⟨y, hy⟩ := getL hi
    obtain ⟨b1, b2, b3⟩ := pairs_prX hP (List.mem_of_getElem? hy)
    have hT := undL_take hy
    have hinc := incI hi (show l.length ≤ 9223372036854775807 by omega)
    have back : ∀ {s' : Sl} {h' : Hp} (ρ : List (Nat × Nat)) (P' : List PrpX), CanonS txT ((undL l).map UnX.u) ((undL (l.take (i + 1))).map UnX.u) P' → P'.length ≤ i + 1 → Le ρ (S0 (i + 1)) (H0 P') s' h' → ∃ m' ρ s'' h'', m' < l.length - i ∧ Le ρ s'' h'' s' h' ∧ ∃ (i : Nat) (P : List PrpX), i ≤ l.length ∧ CanonS txT ((undL l).map UnX.u) ((undL (l.take i)).map UnX.u) P ∧ P.length ≤ i ∧ m' = l.length - i ∧ s'' = S0 i ∧ h'' = H0 P := fun ρ P' hc hlp hle =>
      ⟨l.length - (i + 1), ρ, _, _, by omega, hle, i + 1, P', hi, hc, hlp, rfl, rfl, rfl⟩
    conv => whnf
    refine ⟨Int.natCast_nonneg _, ltI hy, ?_⟩
    conv => whnf
    refine ex2 _ (nthI hy) ?_
    conv => whnf
    refine ⟨⟨y, b1, b2, b3⟩, rfl, ?_⟩
    rintro _ _ ⟨rfl, x, n, r, ok, rfl, k1, k2⟩
    conv => whnf
    replace k1 : ok = true → undP y = some ⟨y.lo, x, n, r⟩ := k1
    replace k2 : ok = false → undP y = none ∧ x = tx0 := k2
    intro _
    conv => whnf
    intro _
    conv => whnf
    refine ⟨fun z s h => ∃ (kn : Bool) (a j : Nat), j ≤ P.length ∧ (kn = true ↔ ok = false ∨ ∃ p ∈ P.take j, p.1 = x) ∧ PlaceI x P j a ∧ z = P.length - j ∧ s = pS1 l P i kn a j ∧ h = pH1 l P x, P.length, [(400, 400), (368, 368), (112, 112)], pS1 l P i (!ok) P.length 0, pH1 l P x, ⟨rfl, ⟨rfl, rfl, (by rw [List.length_map]; rfl), rfl, rfl, rfl, rfl, rfl, rfl, rfl, trivial⟩, rfl, rfl, rfl, trivial⟩, ⟨!ok, P.length, 0, by omega, by simp, ⟨.inl rfl, by simp⟩, by omega, rfl, rfl⟩, ?_⟩
    rintro z _ _ ⟨kn, a, j, f0, f1, f2, rfl, rfl, rfl⟩
    refine p6_body2 (ok := ok) (by omega) f0 f1 f2 (fun hj s h kn' a' ρ q1 q2 hle => ⟨P.length - (j + 1), ρ, _, _, by omega, hle, kn', a', j + 1, hj, q1, q2, rfl, rfl, rfl⟩) (fun hjl v => ?_)
    subst hjl
    rw [List.take_length] at f1
    cases kn with
    | true =>
      have hc : CanonS txT ((undL l).map UnX.u) ((undL (l.take (i + 1))).map UnX.u) P := by
        rw [hT]
        rcases f1.1 rfl with e | ⟨p, hp, e⟩
        · rw [(k2 e).1]; simpa using g2
        · cases ok with
          | false => rw [(k2 rfl).1]; simpa using g2
          | true =>
            rw [k1 rfl, List.map_append]
            exact canonS_skip g2 ⟨p, hp, e⟩
      conv => whnf
      exact back [(400, 400), (368, 368)] P hc (by omega) ⟨rfl, ⟨hinc, rfl, rfl, rfl, rfl, trivial⟩, rfl, rfl, trivial⟩
    | false =>
      have hok : ok = true := by
        cases ok with
        | true => rfl
        | false => have := f1.2 (.inl rfl); cases this
      have hno : ∀ p ∈ P, p.1 ≠ x := fun p hp e => by have := f1.2 (.inr ⟨p, hp, e⟩); cases this
      subst hok
      have hu := k1 rfl
      have hIs := undP_is hu
      rw [hu] at hT
      have ha2 : a ≤ P.length := by
        rcases f2.1 with e | ⟨e, _⟩ <;> omega
      have hpl : (P.map some).length = P.length := List.length_map ..
      have hcan := canonS_ins (u := (⟨y.lo, x, n, r⟩ : UnX).u) (i := a) g2 (fun p hp e => by
        obtain ⟨w, hw, hw2⟩ := (g2.mem p.1).1 ⟨p, hp, rfl⟩
        obtain ⟨v, hv, rfl⟩ := List.mem_map.1 hw
        obtain ⟨p', _, hp'⟩ := undL_ok hv
        have htx : txOkB p.1 = true := by rw [← hw2]; exact hp'.tx
        exact hno p hp (txT_inj htx hIs.tx e)) (fun p hp => by
          have h9 := f2.2
          rw [show min P.length a = a by omega] at h9
          exact h9 p hp) (fun p hp => by
          rcases f2.1 with e | ⟨_, q, hq, h9⟩
          · have := (List.getElem?_eq_some_iff.1 hp).1; omega
          · rw [hp] at hq; cases hq; exact h9)
      replace hcan : CanonS txT ((undL l).map UnX.u) ((undL (l.take (i + 1))).map UnX.u) (P.take a ++ (x, recsOf ((undL l).map UnX.u) x) :: P.drop a) := by
        rw [hT, List.map_append]; exact hcan
      have hcl : (P.take a ++ (x, recsOf ((undL l).map UnX.u) x) :: P.drop a).length ≤ i + 1 := by
        rw [List.length_append, List.length_cons, List.length_take, List.length_drop]; omega
      clear k1 k2 f1 f2 hno hIs
      conv => whnf
      refine ⟨[.nlc 224 0 3 1000], ?_⟩
      conv => whnf
      refine ⟨5, RecX, RecX.ds, fun _ => rfl, ?_⟩
      conv => whnf
      refine ⟨fun z s h => ∃ (k : Nat) (rs : List RecX), k ≤ 16 ∧ rs = recsTo ((undL l).map UnX.u) x k ∧ rs.length ≤ 200 * k ∧ z = 16 - k ∧ s = pS2 l i a k ∧ h = pH2 l P x rs, 16, [(224, 224), (16000, 16000), (112, 112), (400, 400), (368, 368)], pS2 l i a 0, pH2 l P x [], ⟨rfl, ⟨rfl, rfl, rfl, rfl, rfl, rfl, rfl, rfl, rfl, trivial⟩, rfl, rfl, rfl, rfl, rfl, trivial⟩, ⟨0, [], by omega, rfl, by simp, rfl, rfl, rfl⟩, ?_⟩
      rintro z _ _ ⟨k, rs, e0, e1, e2, rfl, rfl, rfl⟩
      refine p6_body4 hP e0 e1 e2 (fun hk s h ρ rs2 q1 q2 hle => ⟨16 - (k + 1), ρ, _, _, by omega, hle, k + 1, rs2, hk, q1, q2, rfl, rfl, rfl⟩) (fun hk v => ?_)
      subst hk
      have hrs := e1
      replace hrs : rs = recsOf ((undL l).map UnX.u) x := hrs
      rw [← hrs] at hcan hcl
      have sl1 : (0 : Int) ≤ (a : Int) ∧ (a : Int) ≤ (((P.map some).length : Nat) : Int) := ⟨Int.natCast_nonneg _, by rw [hpl]; omega⟩
      conv => whnf
      refine ⟨sl1.1, sl1.2, Int.le_refl _, ?_⟩
      conv => whnf
      refine ⟨true, ?_⟩
      conv => whnf
      refine ⟨Option PrpX, encPO, [], encPO_len, rfl, ?_⟩
      conv => whnf
      refine ⟨none, rfl, ?_⟩
      conv => whnf
      refine ⟨_, rfl, ?_, ?_⟩
      · show 0 + (((P.map some).drop a).take _).length ≤ 4294967296
        rw [List.length_take, List.length_drop, hpl]; omega
      conv => whnf
      have hrow : ((P.map some).take a ++ List.replicate (((P.map some).length : Int) - (a : Int)).toNat none ++ (P.map some).drop (a + (((P.map some).length : Int) - (a : Int)).toNat)).length = P.length := by
        simp only [List.length_append, List.length_take, List.length_replicate, List.length_drop, List.length_map]; omega
      refine ⟨Int.le_refl _, sl1.1, (show (a : Int) ≤ ((((P.map some).take a ++ List.replicate (((P.map some).length : Int) - (a : Int)).toNat none ++ (P.map some).drop (a + (((P.map some).length : Int) - (a : Int)).toNat)).length : Nat) : Int) by rw [hrow]; omega), ?_⟩
      conv => whnf
      repeat (refine rc_i (by (conv => whnf); first | rfl | exact fun _ => rfl | exact ⟨Int.le_refl _, sl1.1, (show (a : Int) ≤ ((((P.map some).take a ++ List.replicate (((P.map some).length : Int) - (a : Int)).toNat none ++ (P.map some).drop (a + (((P.map some).length : Int) - (a : Int)).toNat)).length : Nat) : Int) by rw [hrow]; omega), rfl⟩) ?_; conv => whnf)
      refine ⟨[some (x, rs)], rfl, ?_, ?_⟩
      · show (List.take _ (List.drop 0 _)).length + 1 ≤ 4294967296
        rw [List.length_take]
        have : (List.drop 0 ((P.map some).take a ++ List.replicate (((P.map some).length : Int) - (a : Int)).toNat none ++ (P.map some).drop (a + (((P.map some).length : Int) - (a : Int)).toNat))).length = P.length := by rw [List.drop_zero, hrow]
        exact Nat.le_trans (Nat.add_le_add_right (Nat.min_le_right _ _) 1) (by show (List.drop 0 ((P.map some).take a ++ List.replicate (((P.map some).length : Int) - (a : Int)).toNat none ++ (P.map some).drop (a + (((P.map some).length : Int) - (a : Int)).toNat))).length + 1 ≤ _; omega)
      conv => whnf
      repeat ((first | refine rc_i rfl ?_ | refine rc_i (fun _ => rfl) ?_); conv => whnf)
      have hfin := take_cons_map (q := (x, rs)) ha2 ((((P.map some).length : Int) - (a : Int)).toNat) (k := (((P.map some).length : Int) - (a : Int)).toNat) (by rw [hpl]; omega)
      refine ⟨_, rfl, ?_, ?_⟩
      · show ((((P.map some).take a ++ List.replicate ((((P.map some).length : Int) - (a : Int)).toNat) none ++ (P.map some).drop (a + (((P.map some).length : Int) - (a : Int)).toNat)).drop 0).take a ++ [some (x, rs)]).length + (([] : List (Option PrpX)) ++ ((P.map some).drop a).take (((P.map some).length : Int) - (a : Int)).toNat).length ≤ 4294967296
        rw [← List.length_append, hfin, List.length_map]; omega
      conv => whnf
      refine back [(400, 400), (1936, 368)] _ hcan hcl ?_
      refine ⟨rfl, ⟨hinc, rfl, rfl, rfl, rfl, trivial⟩, rfl, ?_, trivial⟩
      rw [← hfin]; rfl
  · have hi : i = l.length := by have := of_decide_eq_false h5; omega
    subst hi
    rw [List.take_length] at g2
    conv => whnf
    refine ⟨[.enc 368], ?_⟩
    conv => whnf
    refine ⟨PrpX, encP, P, fun _ => rfl, by rw [List.map_map]; rfl, ?_⟩
    conv => whnf
    exact ⟨⟨rfl, P, rfl, l, ha, g2.canon⟩⟩
theorem sPreps_ok : FnOk Tryz.prog 16 cPreps := fnOk_of fun x => fnX_at tab_ok (SOk.cons gh_ok (SOk.cons gh_ok (SOk.cons gh_ok (SOk.cons sTreeAll_ok (SOk.cons sRead8_ok (SOk.cons sTxText_ok SOk.nil)))))) mixed (fn := Tryz.f16) (code := body Tryz.f16) ⟨Tryz.func16, rfl, by kernel_rfl, by kernel_rfl, by kernel_rfl, by kernel_rfl⟩ (ev_sPreps x)
end Go.Vm
namespace Go.Vm
open Go.Proofs
set_option maxRecDepth 100000
set_option linter.unusedVariables false
set_option linter.unusedSimpArgs false

def strB0 (s : ByteArray) : Prop := s.size ≤ maxS
def strB1 (s : ByteArray) : Prop := s.size ≤ 1048576
def intB0 (n : Int) : Prop := True
theorem ev_szStringS : ∀ x, evFnX tab [] (cSzS 1 strE1 strB0 strB1) Tryz.f118 (body Tryz.f118) x := by
  rintro ⟨l, left, h1, h2, hb0, hb⟩
  replace hb0 : l.length ≤ 9223372036854775807 := hb0
  conv => whnf
  intro h3
  conv => whnf
  have e1 : IntKind.i64.wrap (left - (l.length : Int)) = left - l.length := w64 (by omega) (by omega)
  refine br2 (fun h4 => ?_) (fun h4 => ?_)
  · conv => whnf
    exact ⟨⟨rfl, -1, rfl, by omega, (show (-1 : Int) ≤ left by omega), fun h => by omega⟩⟩
  replace h4 : decide (IntKind.i64.wrap (left - (l.length : Int)) < 0) = false := h4
  rw [e1] at h4
  have h4' := of_decide_eq_false h4
  conv => whnf
  refine ⟨fun m s h => ∃ (i : Nat) (k : Int), i ≤ l.length ∧ 0 ≤ k ∧ k ≤ left - l.length ∧ (∀ j y, j < i → l[j]? = some y → strB1 y) ∧ m = l.length - i ∧ s = [(0, .sl 0 none), (1, .lf (.int .i64 k)), (5, .lf (.int .i64 i))] ∧ h = [(0, some (.row .lent 1 strE1 l))],
    l.length, [(0, 0)], [(0, .sl 0 none), (1, .lf (.int .i64 (left - l.length))), (5, .lf (.int .i64 0))], [(0, some (.row .lent 1 strE1 l))], ⟨rfl, ⟨rfl, ?_, rfl, trivial⟩, ⟨rfl, trivial⟩⟩, ⟨0, left - l.length, by omega, by omega, by omega, fun j y h => by omega, by omega, rfl, rfl⟩, ?_⟩
  · show V.lf (.int .i64 (IntKind.i64.wrap (left - (l.length : Int)))) = _
    rw [e1]
  rintro m _ _ ⟨i, k, g1, g2, g3, g4, rfl, rfl, rfl⟩
  conv => whnf
  intro _
  conv => whnf
  refine br2 (fun h5 => ?_) (fun h5 => ?_)
  · have hi : i < l.length := by have := of_decide_eq_true h5; omega
    obtain ⟨y, hy⟩ := getL hi
    have hys : y.size ≤ 9223372036854775807 := hb y (List.mem_of_getElem? hy)
    have e2 : IntKind.i64.wrap (k - (y.size : Int)) = k - y.size := w64 (by omega) (by omega)
    conv => whnf
    refine ⟨Int.natCast_nonneg _, ltI hy, ?_⟩
    conv => whnf
    refine ex2 _ (nthI hy) ?_
    conv => whnf
    refine br2 (fun h6 => ?_) (fun h6 => ?_)
    · conv => whnf
      exact ⟨⟨rfl, -1, rfl, by omega, (show (-1 : Int) ≤ left by omega), fun h => by omega⟩⟩
    · replace h6 : decide (IntKind.i64.wrap (k - (y.size : Int)) < 0) = false := h6
      rw [e2] at h6
      have h6' := of_decide_eq_false h6
      conv => whnf
      refine ⟨l.length - (i + 1), [(0, 0)], [(0, .sl 0 none), (1, .lf (.int .i64 (k - y.size))), (5, .lf (.int .i64 ((i + 1 : Nat) : Int)))], [(0, some (.row .lent 1 strE1 l))], by omega, ⟨rfl, ⟨rfl, ?_, incI hi hb0, trivial⟩, ⟨rfl, trivial⟩⟩, i + 1, k - y.size, by omega, by omega, by omega, fun j z hj hz => ?_, rfl, rfl, rfl⟩
      · show V.lf (.int .i64 (IntKind.i64.wrap (k - (y.size : Int)))) = _
        rw [e2]
      · rcases Nat.lt_or_ge j i with h7 | h7
        · exact g4 j z h7 hz
        · obtain rfl : j = i := by omega
          rw [hy] at hz; cases hz
          unfold strB1; omega
  · have hi : i = l.length := by have := of_decide_eq_false h5; omega
    conv => whnf
    refine ⟨⟨rfl, k, rfl, by omega, (show k ≤ left by omega), fun _ => (⟨by omega, fun y hy => ?_⟩ : (l.length : Int) + k ≤ left ∧ ∀ y ∈ l, strB1 y)⟩⟩
    obtain ⟨j, hj⟩ := List.getElem?_of_mem hy
    exact g4 j y (by rw [hi]; exact (List.getElem?_eq_some_iff.1 hj).1) hj
theorem szStringS_ok : FnOk Tryz.prog 118 (cSzS 1 strE1 strB0 strB1) := fnOk_of fun x => fnX_at tab_ok (SOk.nil) mixed (fn := Tryz.f118) (code := body Tryz.f118) ⟨Tryz.func118, rfl, by kernel_rfl, by kernel_rfl, by kernel_rfl, by kernel_rfl⟩ (ev_szStringS x)
theorem ev_szIntS : ∀ x, evFnX tab [] (cSzS 1 intE1 intB0 intB0) Tryz.f119 (body Tryz.f119) x := by
  rintro ⟨l, left, h1, h2, hb0, hb⟩
  replace hb0 : l.length ≤ 9223372036854775807 := hb0
  conv => whnf
  intro h3
  conv => whnf
  have e1 : IntKind.i64.wrap (left - (l.length : Int)) = left - l.length := w64 (by omega) (by omega)
  refine br2 (fun h4 => ?_) (fun h4 => ?_)
  · conv => whnf
    exact ⟨⟨rfl, -1, rfl, by omega, (show (-1 : Int) ≤ left by omega), fun h => by omega⟩⟩
  replace h4 : decide (IntKind.i64.wrap (left - (l.length : Int)) < 0) = false := h4
  rw [e1] at h4
  have h4' := of_decide_eq_false h4
  conv => whnf
  refine ⟨⟨rfl, _, rfl, ?_, ?_, fun _ => (⟨?_, fun y _ => trivial⟩ : (l.length : Int) + IntKind.i64.wrap (left - (l.length : Int)) ≤ left ∧ ∀ y ∈ l, intB0 y)⟩⟩
  · show -1 ≤ IntKind.i64.wrap (left - (l.length : Int)); rw [e1]; omega
  · show IntKind.i64.wrap (left - (l.length : Int)) ≤ left; rw [e1]; omega
  · rw [e1]; omega
theorem szIntS_ok : FnOk Tryz.prog 119 (cSzS 1 intE1 intB0 intB0) := fnOk_of fun x => fnX_at tab_ok (SOk.nil) mixed (fn := Tryz.f119) (code := body Tryz.f119) ⟨Tryz.func119, rfl, by kernel_rfl, by kernel_rfl, by kernel_rfl, by kernel_rfl⟩ (ev_szIntS x)
theorem ev_toStringS : ∀ x, evFnX tab [] (cCopyS 1 strE1) Tryz.f125 (body Tryz.f125) x := by
  rintro ⟨l, hl⟩
  conv => whnf
  intro h1
  conv => whnf
  refine ⟨Int.natCast_nonneg _, rfl, ?_, ?_⟩
  · show (l.length : Int) ≤ (4294967296 : Nat); omega
  conv => whnf
  refine ⟨ByteArray, strE1, (⟨#[]⟩ : ByteArray), fun _ => rfl, rfl, ?_⟩
  conv => whnf
  refine ⟨fun m s h => ∃ (i : Nat) (l' : List ByteArray), i ≤ l.length ∧ l'.length = l.length ∧ (∀ j, j < i → l'[j]? = l[j]?) ∧ m = l.length - i ∧ s = [(0, .sl 0 none), (3, .sl 112 none), (4, .lf (.int .i64 i))] ∧ h = [(112, some (.row .own 1 strE1 l')), (0, some (.row .lent 1 strE1 l))],
    l.length, [(112, 112), (0, 0)], [(0, .sl 0 none), (3, .sl 112 none), (4, .lf (.int .i64 0))], [(112, some (.row .own 1 strE1 (List.replicate (l.length : Int).toNat (⟨#[]⟩ : ByteArray)))), (0, some (.row .lent 1 strE1 l))], ⟨rfl, ⟨rfl, rfl, rfl, trivial⟩, ⟨rfl, rfl, trivial⟩⟩,
    ⟨0, _, by omega, by rw [List.length_replicate, Int.toNat_natCast], fun j h => by omega, by omega, rfl, rfl⟩, ?_⟩
  rintro m _ _ ⟨i, l', g1, g2, g3, rfl, rfl, rfl⟩
  conv => whnf
  intro _
  conv => whnf
  refine br2 (fun h5 => ?_) (fun h5 => ?_)
  · have hi : i < l.length := by have := of_decide_eq_true h5; omega
    obtain ⟨y, hy⟩ : ∃ y, l[i]? = some y := ⟨_, List.getElem?_eq_getElem hi⟩
    have hy2 : nth l ((i : Nat) : Int).toNat = some y := by rw [nth_eq, Int.toNat_natCast]; exact hy
    obtain ⟨z, hz⟩ : ∃ z, l'[i]? = some z := ⟨_, List.getElem?_eq_getElem (by omega)⟩
    have hz2 : nth l' ((i : Nat) : Int).toNat = some z := by rw [nth_eq, Int.toNat_natCast]; exact hz
    conv => whnf
    refine ⟨Int.natCast_nonneg _, (show (i : Int) < (l.length : Int) by omega), ?_⟩
    conv => whnf
    refine ex2 y hy2 ?_
    conv => whnf
    refine ⟨Int.natCast_nonneg _, (show (i : Int) < (l'.length : Int) by omega), ?_⟩
    conv => whnf
    refine ex2 z hz2 ?_
    conv => whnf
    refine ⟨y, rfl, ?_⟩
    conv => whnf
    refine ⟨l.length - (i + 1), [(112, 112), (0, 0)], [(0, .sl 0 none), (3, .sl 112 none), (4, .lf (.int .i64 ((i + 1 : Nat) : Int)))], [(112, some (.row .own 1 strE1 (l'.set (i : Int).toNat y))), (0, some (.row .lent 1 strE1 l))], by omega, ⟨rfl, ⟨rfl, rfl, ?_, trivial⟩, ⟨rfl, rfl, trivial⟩⟩, i + 1, _, by omega, ?_, fun j hj => ?_, rfl, rfl, rfl⟩
    · show V.lf (.int .i64 (IntKind.i64.wrap ((i : Int) + 1))) = _
      rw [w64 (by omega) (by omega)]; rfl
    · rw [List.length_set]; exact g2
    · rw [Int.toNat_natCast, set_at (by omega)]
      split
      · rename_i e; subst e; exact hy.symm
      · exact g3 j (by omega)
  · have hi : i = l.length := by have := of_decide_eq_false h5; omega
    conv => whnf
    refine ⟨⟨rfl, ?_⟩⟩
    have : l' = l := by
      apply List.ext_getElem?
      intro j
      rcases Nat.lt_or_ge j l.length with h | h
      · exact g3 j (by omega)
      · rw [List.getElem?_eq_none (by omega), List.getElem?_eq_none h]
    show [[D.row _ strE1 l']] = [[D.row 1 strE1 l]]
    rw [this]
theorem toStringS_ok : FnOk Tryz.prog 125 (cCopyS 1 strE1) := fnOk_of fun x => fnX_at tab_ok (SOk.nil) mixed (fn := Tryz.f125) (code := body Tryz.f125) ⟨Tryz.func125, rfl, by kernel_rfl, by kernel_rfl, by kernel_rfl, by kernel_rfl⟩ (ev_toStringS x)
theorem ev_toIntS : ∀ x, evFnX tab [] (cCopyS 1 intE1) Tryz.f126 (body Tryz.f126) x := by
  rintro ⟨l, hl⟩
  conv => whnf
  intro h1
  conv => whnf
  refine ⟨Int.natCast_nonneg _, rfl, ?_, ?_⟩
  · show (l.length : Int) ≤ (4294967296 : Nat); omega
  conv => whnf
  refine ⟨Int, intE1, (0 : Int), fun _ => rfl, rfl, ?_⟩
  conv => whnf
  refine ⟨fun m s h => ∃ (i : Nat) (l' : List Int), i ≤ l.length ∧ l'.length = l.length ∧ (∀ j, j < i → l'[j]? = l[j]?) ∧ m = l.length - i ∧ s = [(0, .sl 0 none), (3, .sl 112 none), (4, .lf (.int .i64 i))] ∧ h = [(112, some (.row .own 1 intE1 l')), (0, some (.row .lent 1 intE1 l))],
    l.length, [(112, 112), (0, 0)], [(0, .sl 0 none), (3, .sl 112 none), (4, .lf (.int .i64 0))], [(112, some (.row .own 1 intE1 (List.replicate (l.length : Int).toNat (0 : Int)))), (0, some (.row .lent 1 intE1 l))], ⟨rfl, ⟨rfl, rfl, rfl, trivial⟩, ⟨rfl, rfl, trivial⟩⟩,
    ⟨0, _, by omega, by rw [List.length_replicate, Int.toNat_natCast], fun j h => by omega, by omega, rfl, rfl⟩, ?_⟩
  rintro m _ _ ⟨i, l', g1, g2, g3, rfl, rfl, rfl⟩
  conv => whnf
  intro _
  conv => whnf
  refine br2 (fun h5 => ?_) (fun h5 => ?_)
  · have hi : i < l.length := by have := of_decide_eq_true h5; omega
    obtain ⟨y, hy⟩ : ∃ y, l[i]? = some y := ⟨_, List.getElem?_eq_getElem hi⟩
    have hy2 : nth l ((i : Nat) : Int).toNat = some y := by rw [nth_eq, Int.toNat_natCast]; exact hy
    obtain ⟨z, hz⟩ : ∃ z, l'[i]? = some z := ⟨_, List.getElem?_eq_getElem (by omega)⟩
    have hz2 : nth l' ((i : Nat) : Int).toNat = some z := by rw [nth_eq, Int.toNat_natCast]; exact hz
    conv => whnf
    refine ⟨Int.natCast_nonneg _, (show (i : Int) < (l.length : Int) by omega), ?_⟩
    conv => whnf
    refine ex2 y hy2 ?_
    conv => whnf
    refine ⟨Int.natCast_nonneg _, (show (i : Int) < (l'.length : Int) by omega), ?_⟩
    conv => whnf
    refine ex2 z hz2 ?_
    conv => whnf
    refine ⟨y, rfl, ?_⟩
    conv => whnf
    refine ⟨l.length - (i + 1), [(112, 112), (0, 0)], [(0, .sl 0 none), (3, .sl 112 none), (4, .lf (.int .i64 ((i + 1 : Nat) : Int)))], [(112, some (.row .own 1 intE1 (l'.set (i : Int).toNat y))), (0, some (.row .lent 1 intE1 l))], by omega, ⟨rfl, ⟨rfl, rfl, ?_, trivial⟩, ⟨rfl, rfl, trivial⟩⟩, i + 1, _, by omega, ?_, fun j hj => ?_, rfl, rfl, rfl⟩
    · show V.lf (.int .i64 (IntKind.i64.wrap ((i : Int) + 1))) = _
      rw [w64 (by omega) (by omega)]; rfl
    · rw [List.length_set]; exact g2
    · rw [Int.toNat_natCast, set_at (by omega)]
      split
      · rename_i e; subst e; exact hy.symm
      · exact g3 j (by omega)
  · have hi : i = l.length := by have := of_decide_eq_false h5; omega
    conv => whnf
    refine ⟨⟨rfl, ?_⟩⟩
    have : l' = l := by
      apply List.ext_getElem?
      intro j
      rcases Nat.lt_or_ge j l.length with h | h
      · exact g3 j (by omega)
      · rw [List.getElem?_eq_none (by omega), List.getElem?_eq_none h]
    show [[D.row _ intE1 l']] = [[D.row 1 intE1 l]]
    rw [this]
theorem toIntS_ok : FnOk Tryz.prog 126 (cCopyS 1 intE1) := fnOk_of fun x => fnX_at tab_ok (SOk.nil) mixed (fn := Tryz.f126) (code := body Tryz.f126) ⟨Tryz.func126, rfl, by kernel_rfl, by kernel_rfl, by kernel_rfl, by kernel_rfl⟩ (ev_toIntS x)
theorem ev_eqStringS : ∀ x, evFnX tab [] (cEqS 1 strE1) Tryz.f133 (body Tryz.f133) x := by
  rintro ⟨l, m⟩
  conv => whnf
  intro h1
  conv => whnf
  intro h2
  conv => whnf
  refine br2 (fun h3 => ?_) (fun h3 => ?_)
  · conv => whnf
    refine ⟨⟨rfl, ?_⟩⟩
    show _ = [[D.lf (.bool (eqX l m))]]
    have : l ≠ m := by rintro rfl; simp at h3
    rw [eqX_no.2 this]
  have hl : l.length = m.length := by
    replace h3 : ((l.length : Int) != (m.length : Int)) = false := h3
    simp at h3; omega
  conv => whnf
  refine ⟨fun k s h => ∃ i : Nat, i ≤ l.length ∧ (∀ j, j < i → l[j]? = m[j]?) ∧ k = l.length - i ∧ s = [(0, .sl 0 none), (1, .sl 16 none), (5, .lf (.int .i64 i))] ∧ h = [(0, some (.row .lent 1 strE1 l)), (16, some (.row .lent 1 strE1 m))],
    l.length, [(0, 0), (16, 16)], [(0, .sl 0 none), (1, .sl 16 none), (5, .lf (.int .i64 0))], [(0, some (.row .lent 1 strE1 l)), (16, some (.row .lent 1 strE1 m))], ⟨rfl, ⟨rfl, rfl, rfl, trivial⟩, ⟨rfl, rfl, trivial⟩⟩, ⟨0, by omega, fun j h => by omega, by omega, rfl, rfl⟩, ?_⟩
  rintro k _ _ ⟨i, g1, g2, rfl, rfl, rfl⟩
  conv => whnf
  intro h4
  conv => whnf
  refine br2 (fun h5 => ?_) (fun h5 => ?_)
  · have hi : i < l.length := by have := of_decide_eq_true h5; omega
    obtain ⟨y, hy⟩ : ∃ y, l[i]? = some y := ⟨_, List.getElem?_eq_getElem hi⟩
    have hy2 : nth l ((i : Nat) : Int).toNat = some y := by rw [nth_eq, Int.toNat_natCast]; exact hy
    obtain ⟨z, hz⟩ : ∃ z, m[i]? = some z := ⟨_, List.getElem?_eq_getElem (by omega)⟩
    have hz2 : nth m ((i : Nat) : Int).toNat = some z := by rw [nth_eq, Int.toNat_natCast]; exact hz
    conv => whnf
    refine ⟨Int.natCast_nonneg _, (show (i : Int) < (l.length : Int) by omega), ?_⟩
    conv => whnf
    refine ex2 y hy2 ?_
    conv => whnf
    refine ⟨Int.natCast_nonneg _, (show (i : Int) < (m.length : Int) by omega), ?_⟩
    conv => whnf
    refine ex2 z hz2 ?_
    conv => whnf
    refine br2 (fun h6 => ?_) (fun h6 => ?_)
    · replace h6 : (!strEq y z) = true := h6
      rw [Bool.not_eq_true', strEq_no] at h6
      conv => whnf
      refine ⟨⟨rfl, ?_⟩⟩
      show _ = [[D.lf (.bool (eqX l m))]]
      have : l ≠ m := by rintro rfl; rw [hy] at hz; cases hz; exact h6 rfl
      rw [eqX_no.2 this]
    · replace h6 : (!strEq y z) = false := h6
      rw [Bool.not_eq_false', strEq_iff] at h6
      conv => whnf
      refine ⟨l.length - (i + 1), [(0, 0), (16, 16)], [(0, .sl 0 none), (1, .sl 16 none), (5, .lf (.int .i64 ((i + 1 : Nat) : Int)))], [(0, some (.row .lent 1 strE1 l)), (16, some (.row .lent 1 strE1 m))], by omega, ⟨rfl, ⟨rfl, rfl, ?_, trivial⟩, ⟨rfl, rfl, trivial⟩⟩, i + 1, by omega, fun j hj => ?_, rfl, rfl, rfl⟩
      · show V.lf (.int .i64 (IntKind.i64.wrap ((i : Int) + 1))) = _
        replace h4 : l.length ≤ 9223372036854775807 := h4
        rw [w64 (by omega) (by omega)]; rfl
      · rcases Nat.lt_or_ge j i with h7 | h7
        · exact g2 j h7
        · obtain rfl : j = i := by omega
          rw [hy, hz, h6]
  · have hi : i = l.length := by have := of_decide_eq_false h5; omega
    conv => whnf
    refine ⟨⟨rfl, ?_⟩⟩
    show _ = [[D.lf (.bool (eqX l m))]]
    have : l = m := by
      apply List.ext_getElem?
      intro j
      rcases Nat.lt_or_ge j l.length with h | h
      · exact g2 j (by omega)
      · rw [List.getElem?_eq_none h, List.getElem?_eq_none (by omega)]
    rw [eqX_iff.2 this]
theorem eqStringS_ok : FnOk Tryz.prog 133 (cEqS 1 strE1) := fnOk_of fun x => fnX_at tab_ok (SOk.nil) mixed (fn := Tryz.f133) (code := body Tryz.f133) ⟨Tryz.func133, rfl, by kernel_rfl, by kernel_rfl, by kernel_rfl, by kernel_rfl⟩ (ev_eqStringS x)
theorem ev_eqIntS : ∀ x, evFnX tab [] (cEqS 1 intE1) Tryz.f134 (body Tryz.f134) x := by
  rintro ⟨l, m⟩
  conv => whnf
  intro h1
  conv => whnf
  intro h2
  conv => whnf
  refine br2 (fun h3 => ?_) (fun h3 => ?_)
  · conv => whnf
    refine ⟨⟨rfl, ?_⟩⟩
    show _ = [[D.lf (.bool (eqX l m))]]
    have : l ≠ m := by rintro rfl; simp at h3
    rw [eqX_no.2 this]
  have hl : l.length = m.length := by
    replace h3 : ((l.length : Int) != (m.length : Int)) = false := h3
    simp at h3; omega
  conv => whnf
  refine ⟨fun k s h => ∃ i : Nat, i ≤ l.length ∧ (∀ j, j < i → l[j]? = m[j]?) ∧ k = l.length - i ∧ s = [(0, .sl 0 none), (1, .sl 16 none), (5, .lf (.int .i64 i))] ∧ h = [(0, some (.row .lent 1 intE1 l)), (16, some (.row .lent 1 intE1 m))],
    l.length, [(0, 0), (16, 16)], [(0, .sl 0 none), (1, .sl 16 none), (5, .lf (.int .i64 0))], [(0, some (.row .lent 1 intE1 l)), (16, some (.row .lent 1 intE1 m))], ⟨rfl, ⟨rfl, rfl, rfl, trivial⟩, ⟨rfl, rfl, trivial⟩⟩, ⟨0, by omega, fun j h => by omega, by omega, rfl, rfl⟩, ?_⟩
  rintro k _ _ ⟨i, g1, g2, rfl, rfl, rfl⟩
  conv => whnf
  intro h4
  conv => whnf
  refine br2 (fun h5 => ?_) (fun h5 => ?_)
  · have hi : i < l.length := by have := of_decide_eq_true h5; omega
    obtain ⟨y, hy⟩ : ∃ y, l[i]? = some y := ⟨_, List.getElem?_eq_getElem hi⟩
    have hy2 : nth l ((i : Nat) : Int).toNat = some y := by rw [nth_eq, Int.toNat_natCast]; exact hy
    obtain ⟨z, hz⟩ : ∃ z, m[i]? = some z := ⟨_, List.getElem?_eq_getElem (by omega)⟩
    have hz2 : nth m ((i : Nat) : Int).toNat = some z := by rw [nth_eq, Int.toNat_natCast]; exact hz
    conv => whnf
    refine ⟨Int.natCast_nonneg _, (show (i : Int) < (l.length : Int) by omega), ?_⟩
    conv => whnf
    refine ex2 y hy2 ?_
    conv => whnf
    refine ⟨Int.natCast_nonneg _, (show (i : Int) < (m.length : Int) by omega), ?_⟩
    conv => whnf
    refine ex2 z hz2 ?_
    conv => whnf
    refine br2 (fun h6 => ?_) (fun h6 => ?_)
    · replace h6 : (y != z) = true := h6
      replace h6 : y ≠ z := by simpa using h6
      conv => whnf
      refine ⟨⟨rfl, ?_⟩⟩
      show _ = [[D.lf (.bool (eqX l m))]]
      have : l ≠ m := by rintro rfl; rw [hy] at hz; cases hz; exact h6 rfl
      rw [eqX_no.2 this]
    · replace h6 : (y != z) = false := h6
      replace h6 : y = z := by simpa using h6
      conv => whnf
      refine ⟨l.length - (i + 1), [(0, 0), (16, 16)], [(0, .sl 0 none), (1, .sl 16 none), (5, .lf (.int .i64 ((i + 1 : Nat) : Int)))], [(0, some (.row .lent 1 intE1 l)), (16, some (.row .lent 1 intE1 m))], by omega, ⟨rfl, ⟨rfl, rfl, ?_, trivial⟩, ⟨rfl, rfl, trivial⟩⟩, i + 1, by omega, fun j hj => ?_, rfl, rfl, rfl⟩
      · show V.lf (.int .i64 (IntKind.i64.wrap ((i : Int) + 1))) = _
        replace h4 : l.length ≤ 9223372036854775807 := h4
        rw [w64 (by omega) (by omega)]; rfl
      · rcases Nat.lt_or_ge j i with h7 | h7
        · exact g2 j h7
        · obtain rfl : j = i := by omega
          rw [hy, hz, h6]
  · have hi : i = l.length := by have := of_decide_eq_false h5; omega
    conv => whnf
    refine ⟨⟨rfl, ?_⟩⟩
    show _ = [[D.lf (.bool (eqX l m))]]
    have : l = m := by
      apply List.ext_getElem?
      intro j
      rcases Nat.lt_or_ge j l.length with h | h
      · exact g2 j (by omega)
      · rw [List.getElem?_eq_none h, List.getElem?_eq_none (by omega)]
    rw [eqX_iff.2 this]
theorem eqIntS_ok : FnOk Tryz.prog 134 (cEqS 1 intE1) := fnOk_of fun x => fnX_at tab_ok (SOk.nil) mixed (fn := Tryz.f134) (code := body Tryz.f134) ⟨Tryz.func134, rfl, by kernel_rfl, by kernel_rfl, by kernel_rfl, by kernel_rfl⟩ (ev_eqIntS x)
def nodeB0 (n : NodeX) : Prop := (n.ps.length ≤ maxS ∧ ∀ y ∈ n.ps, rngB0 y) ∧ (n.keys.length ≤ maxS ∧ ∀ y ∈ n.keys, strB0 y) ∧ n.kids.length ≤ maxS
def nodeB (n : NodeX) : Prop := n.ps.length ≤ 1048576 ∧ n.keys.length ≤ 1048576 ∧ n.kids.length ≤ 1048576
theorem ev_szNode : ∀ x, evFnX tab [(117, (cSzS 2 RngX.ds rngB0 rngB)), (118, (cSzS 1 strE1 strB0 strB1)), (119, (cSzS 1 intE1 intB0 intB0))] (cSz NodeX.ds nodeB0 nodeB) Tryz.f65 (body Tryz.f65) x := by
  rintro ⟨x, left, h1, h2, hb1, hb2, hb3⟩
  conv => whnf
  refine ⟨⟨x.ps, left, h1, h2, hb1⟩, rfl, ?_⟩
  rintro _ _ ⟨rfl, k, rfl, k1, k2, k3⟩
  replace k2 : k ≤ left := k2
  conv => whnf
  refine br2 (fun h3 => ?_) (fun h3 => ?_)
  · conv => whnf
    exact ⟨⟨rfl, -1, rfl, by omega, (show (-1 : Int) ≤ left by omega), fun h => by omega⟩⟩
  have h3' := of_decide_eq_false h3
  have k4 : (x.ps.length : Int) + k ≤ left := (k3 (by omega)).1
  conv => whnf
  refine ⟨⟨x.keys, k, by omega, by omega, hb2⟩, rfl, ?_⟩
  rintro _ _ ⟨rfl, j, rfl, j1, j2, j3⟩
  replace j2 : j ≤ k := j2
  conv => whnf
  refine br2 (fun h4 => ?_) (fun h4 => ?_)
  · conv => whnf
    exact ⟨⟨rfl, -1, rfl, by omega, (show (-1 : Int) ≤ left by omega), fun h => by omega⟩⟩
  have h4' := of_decide_eq_false h4
  have j4 : (x.keys.length : Int) + j ≤ k := (j3 (by omega)).1
  conv => whnf
  refine ⟨⟨x.kids, j, by omega, by omega, hb3, fun _ _ => trivial⟩, rfl, ?_⟩
  rintro _ _ ⟨rfl, q, rfl, q1, q2, q3⟩
  replace q2 : q ≤ j := q2
  conv => whnf
  refine br2 (fun h5 => ?_) (fun h5 => ?_)
  · conv => whnf
    exact ⟨⟨rfl, -1, rfl, by omega, (show (-1 : Int) ≤ left by omega), fun h => by omega⟩⟩
  have h5' := of_decide_eq_false h5
  have q4 : (x.kids.length : Int) + q ≤ j := (q3 (by omega)).1
  conv => whnf
  exact ⟨⟨rfl, q, rfl, by omega, (show q ≤ left by omega), fun _ => (⟨by omega, by omega, by omega⟩ : nodeB x)⟩⟩
theorem szNode_ok : FnOk Tryz.prog 65 (cSz NodeX.ds nodeB0 nodeB) := fnOk_of fun x => fnX_at tab_ok (SOk.cons szPairS_ok (SOk.cons szStringS_ok (SOk.cons szIntS_ok SOk.nil))) mixed (fn := Tryz.f65) (code := body Tryz.f65) ⟨Tryz.func65, rfl, by kernel_rfl, by kernel_rfl, by kernel_rfl, by kernel_rfl⟩ (ev_szNode x)
theorem ev_szNodeS : ∀ x, evFnX tab [(65, (cSz NodeX.ds nodeB0 nodeB))] (cSzS 3 NodeX.ds nodeB0 nodeB) Tryz.f28 (body Tryz.f28) x := by
  rintro ⟨l, left, h1, h2, hb0, hb⟩
  replace hb0 : l.length ≤ 9223372036854775807 := hb0
  conv => whnf
  intro h3
  conv => whnf
  have e1 : IntKind.i64.wrap (left - (l.length : Int)) = left - l.length := w64 (by omega) (by omega)
  refine br2 (fun h4 => ?_) (fun h4 => ?_)
  · conv => whnf
    exact ⟨⟨rfl, -1, rfl, by omega, (show (-1 : Int) ≤ left by omega), fun h => by omega⟩⟩
  replace h4 : decide (IntKind.i64.wrap (left - (l.length : Int)) < 0) = false := h4
  rw [e1] at h4
  have h4' := of_decide_eq_false h4
  conv => whnf
  refine ⟨fun m s h => ∃ (i : Nat) (k : Int), i ≤ l.length ∧ 0 ≤ k ∧ k ≤ left - l.length ∧ (∀ j y, j < i → l[j]? = some y → nodeB y) ∧ m = l.length - i ∧ s = [(0, .sl 0 none), (1, .lf (.int .i64 k)), (5, .lf (.int .i64 i))] ∧ h = [(0, some (.row .lent 3 NodeX.ds l))],
    l.length, [(0, 0)], [(0, .sl 0 none), (1, .lf (.int .i64 (left - l.length))), (5, .lf (.int .i64 0))], [(0, some (.row .lent 3 NodeX.ds l))], ⟨rfl, ⟨rfl, ?_, rfl, trivial⟩, ⟨rfl, trivial⟩⟩, ⟨0, left - l.length, by omega, by omega, by omega, fun j y h => by omega, by omega, rfl, rfl⟩, ?_⟩
  · show V.lf (.int .i64 (IntKind.i64.wrap (left - (l.length : Int)))) = _
    rw [e1]
  rintro m _ _ ⟨i, k, g1, g2, g3, g4, rfl, rfl, rfl⟩
  conv => whnf
  intro _
  conv => whnf
  refine br2 (fun h5 => ?_) (fun h5 => ?_)
  · have hi : i < l.length := by have := of_decide_eq_true h5; omega
    obtain ⟨y, hy⟩ : ∃ y, l[i]? = some y := ⟨_, List.getElem?_eq_getElem hi⟩
    have hy2 : nth l ((i : Nat) : Int).toNat = some y := by rw [nth_eq, Int.toNat_natCast]; exact hy
    conv => whnf
    refine ⟨Int.natCast_nonneg _, (show (i : Int) < (l.length : Int) by omega), ?_⟩
    conv => whnf
    refine ex2 y hy2 ?_
    conv => whnf
    refine ⟨⟨y, k, g2, by omega, hb y (List.mem_of_getElem? hy)⟩, rfl, ?_⟩
    rintro _ _ ⟨rfl, k', rfl, k1, k2, k3⟩
    replace k2 : k' ≤ k := k2
    conv => whnf
    refine br2 (fun h6 => ?_) (fun h6 => ?_)
    · conv => whnf
      exact ⟨⟨rfl, -1, rfl, by omega, (show (-1 : Int) ≤ left by omega), fun h => by omega⟩⟩
    · have h6' := of_decide_eq_false h6
      conv => whnf
      refine ⟨l.length - (i + 1), [(0, 0)], [(0, .sl 0 none), (1, .lf (.int .i64 k')), (5, .lf (.int .i64 ((i + 1 : Nat) : Int)))], [(0, some (.row .lent 3 NodeX.ds l))], by omega, ⟨rfl, ⟨rfl, rfl, ?_, trivial⟩, ⟨rfl, trivial⟩⟩, i + 1, k', by omega, by omega, by omega, fun j z hj hz => ?_, rfl, rfl, rfl⟩
      · show V.lf (.int .i64 (IntKind.i64.wrap ((i : Int) + 1))) = _
        rw [w64 (by omega) (by omega)]; rfl
      · rcases Nat.lt_or_ge j i with h7 | h7
        · exact g4 j z h7 hz
        · obtain rfl : j = i := by omega
          rw [hy] at hz; cases hz; exact k3 (by omega)
  · have hi : i = l.length := by have := of_decide_eq_false h5; omega
    conv => whnf
    refine ⟨⟨rfl, k, rfl, by omega, (show k ≤ left by omega), fun _ => (⟨by omega, fun y hy => ?_⟩ : (l.length : Int) + k ≤ left ∧ ∀ y ∈ l, nodeB y)⟩⟩
    obtain ⟨j, hj⟩ := List.getElem?_of_mem hy
    exact g4 j y (by rw [hi]; exact (List.getElem?_eq_some_iff.1 hj).1) hj
theorem szNodeS_ok : FnOk Tryz.prog 28 (cSzS 3 NodeX.ds nodeB0 nodeB) := fnOk_of fun x => fnX_at tab_ok (SOk.cons szNode_ok SOk.nil) mixed (fn := Tryz.f28) (code := body Tryz.f28) ⟨Tryz.func28, rfl, by kernel_rfl, by kernel_rfl, by kernel_rfl, by kernel_rfl⟩ (ev_szNodeS x)
def nodesB0 (l : List NodeX) : Prop := l.length ≤ maxS ∧ ∀ y ∈ l, nodeB0 y
def nodesB (l : List NodeX) : Prop := l.length ≤ 1048576 ∧ ∀ y ∈ l, nodeB y
def treeDs (l : List NodeX) : List D := [.row 3 NodeX.ds l]
theorem ev_szTree : ∀ x, evFnX tab [(28, (cSzS 3 NodeX.ds nodeB0 nodeB))] (cSz treeDs nodesB0 nodesB) Tryz.f6 (body Tryz.f6) x := by
  rintro ⟨x, left, h1, h2, hb⟩
  conv => whnf
  refine ⟨⟨x, left, h1, h2, hb⟩, rfl, ?_⟩
  rintro _ _ ⟨rfl, k, rfl, k1, k2, k3⟩
  replace k2 : k ≤ left := k2
  conv => whnf
  refine br2 (fun h3 => ?_) (fun h3 => ?_)
  · conv => whnf
    exact ⟨⟨rfl, -1, rfl, by omega, (show (-1 : Int) ≤ left by omega), fun h => by omega⟩⟩
  have h3' := of_decide_eq_false h3
  obtain ⟨k4, k5⟩ := k3 (by omega)
  replace k4 : (x.length : Int) + k ≤ left := k4
  conv => whnf
  exact ⟨⟨rfl, k, rfl, k1, k2, fun _ => (⟨by omega, k5⟩ : nodesB x)⟩⟩
theorem szTree_ok : FnOk Tryz.prog 6 (cSz treeDs nodesB0 nodesB) := fnOk_of fun x => fnX_at tab_ok (SOk.cons szNodeS_ok SOk.nil) mixed (fn := Tryz.f6) (code := body Tryz.f6) ⟨Tryz.func6, rfl, by kernel_rfl, by kernel_rfl, by kernel_rfl, by kernel_rfl⟩ (ev_szTree x)
structure NodeY where
  x : NodeX
  h : nodeB x
theorem ev_toNode : ∀ x, evFnX tab [(124, (cCopyS 2 RngX.ds)), (125, (cCopyS 1 strE1)), (126, (cCopyS 1 intE1))] (pureC NodeY [(.rd, true)] [true] (fun x => [x.x.ds]) (fun x => [x.x.ds])) Tryz.f72 (body Tryz.f72) x := by
  rintro ⟨x, h1, h2, h3⟩
  conv => whnf
  refine ⟨⟨x.ps, h1⟩, rfl, ?_⟩
  rintro _ _ ⟨rfl, rfl⟩
  conv => whnf
  refine ⟨⟨x.keys, h2⟩, rfl, ?_⟩
  rintro _ _ ⟨rfl, rfl⟩
  conv => whnf
  refine ⟨⟨x.kids, h3⟩, rfl, ?_⟩
  rintro _ _ ⟨rfl, rfl⟩
  conv => whnf
  exact ⟨⟨rfl, rfl⟩⟩
theorem toNode_ok : FnOk Tryz.prog 72 (pureC NodeY [(.rd, true)] [true] (fun x => [x.x.ds]) (fun x => [x.x.ds])) := fnOk_of fun x => fnX_at tab_ok (SOk.cons toPairS_ok (SOk.cons toStringS_ok (SOk.cons toIntS_ok SOk.nil))) mixed (fn := Tryz.f72) (code := body Tryz.f72) ⟨Tryz.func72, rfl, by kernel_rfl, by kernel_rfl, by kernel_rfl, by kernel_rfl⟩ (ev_toNode x)
theorem ev_eqNode : ∀ x, evFnX tab [(132, (cEqS 2 RngX.ds)), (133, (cEqS 1 strE1)), (134, (cEqS 1 intE1))] (cEq NodeX.ds) Tryz.f78 (body Tryz.f78) x := by
  rintro ⟨⟨a, b, c⟩, ⟨d, e, f⟩⟩
  repeat' ((conv => whnf); first | refine br2 (fun h => ?_) (fun h => ?_) | (refine ⟨(a, d), rfl, ?_⟩; rintro _ _ ⟨rfl, rfl⟩) | (refine ⟨(b, e), rfl, ?_⟩; rintro _ _ ⟨rfl, rfl⟩) | (refine ⟨(c, f), rfl, ?_⟩; rintro _ _ ⟨rfl, rfl⟩))
  all_goals (conv => whnf)
  all_goals refine ⟨⟨rfl, ?_⟩⟩
  all_goals show _ = [[D.lf (.bool (eqX (⟨a, b, c⟩ : NodeX) ⟨d, e, f⟩))]]
  all_goals congr 4
  all_goals rw [eq_comm]
  all_goals simp_all [eqX_iff, eqX_no]
theorem eqNode_ok : FnOk Tryz.prog 78 (cEq NodeX.ds) := fnOk_of fun x => fnX_at tab_ok (SOk.cons eqPairS_ok (SOk.cons eqStringS_ok (SOk.cons eqIntS_ok SOk.nil))) mixed (fn := Tryz.f78) (code := body Tryz.f78) ⟨Tryz.func78, rfl, by kernel_rfl, by kernel_rfl, by kernel_rfl, by kernel_rfl⟩ (ev_eqNode x)
theorem ev_eqNodeS : ∀ x, evFnX tab [(78, (cEq NodeX.ds))] (cEqS 3 NodeX.ds) Tryz.f37 (body Tryz.f37) x := by
  rintro ⟨l, m⟩
  conv => whnf
  intro h1
  conv => whnf
  intro h2
  conv => whnf
  refine br2 (fun h3 => ?_) (fun h3 => ?_)
  · conv => whnf
    refine ⟨⟨rfl, ?_⟩⟩
    show _ = [[D.lf (.bool (eqX l m))]]
    have : l ≠ m := by rintro rfl; simp at h3
    rw [eqX_no.2 this]
  have hl : l.length = m.length := by
    replace h3 : ((l.length : Int) != (m.length : Int)) = false := h3
    simp at h3; omega
  conv => whnf
  refine ⟨fun k s h => ∃ i : Nat, i ≤ l.length ∧ (∀ j, j < i → l[j]? = m[j]?) ∧ k = l.length - i ∧ s = [(0, .sl 0 none), (1, .sl 16 none), (5, .lf (.int .i64 i))] ∧ h = [(0, some (.row .lent 3 NodeX.ds l)), (16, some (.row .lent 3 NodeX.ds m))],
    l.length, [(0, 0), (16, 16)], [(0, .sl 0 none), (1, .sl 16 none), (5, .lf (.int .i64 0))], [(0, some (.row .lent 3 NodeX.ds l)), (16, some (.row .lent 3 NodeX.ds m))], ⟨rfl, ⟨rfl, rfl, rfl, trivial⟩, ⟨rfl, rfl, trivial⟩⟩, ⟨0, by omega, fun j h => by omega, by omega, rfl, rfl⟩, ?_⟩
  rintro k _ _ ⟨i, g1, g2, rfl, rfl, rfl⟩
  conv => whnf
  intro h4
  conv => whnf
  refine br2 (fun h5 => ?_) (fun h5 => ?_)
  · have hi : i < l.length := by have := of_decide_eq_true h5; omega
    obtain ⟨y, hy⟩ : ∃ y, l[i]? = some y := ⟨_, List.getElem?_eq_getElem hi⟩
    have hy2 : nth l ((i : Nat) : Int).toNat = some y := by rw [nth_eq, Int.toNat_natCast]; exact hy
    obtain ⟨z, hz⟩ : ∃ z, m[i]? = some z := ⟨_, List.getElem?_eq_getElem (by omega)⟩
    have hz2 : nth m ((i : Nat) : Int).toNat = some z := by rw [nth_eq, Int.toNat_natCast]; exact hz
    conv => whnf
    refine ⟨Int.natCast_nonneg _, (show (i : Int) < (l.length : Int) by omega), ?_⟩
    conv => whnf
    refine ex2 y hy2 ?_
    conv => whnf
    refine ⟨Int.natCast_nonneg _, (show (i : Int) < (m.length : Int) by omega), ?_⟩
    conv => whnf
    refine ex2 z hz2 ?_
    conv => whnf
    refine ⟨(y, z), rfl, ?_⟩
    rintro _ _ ⟨rfl, rfl⟩
    conv => whnf
    refine br2 (fun h6 => ?_) (fun h6 => ?_)
    · replace h6 : (!eqX y z) = true := h6
      rw [Bool.not_eq_true', eqX_no] at h6
      conv => whnf
      refine ⟨⟨rfl, ?_⟩⟩
      show _ = [[D.lf (.bool (eqX l m))]]
      have : l ≠ m := by rintro rfl; rw [hy] at hz; cases hz; exact h6 rfl
      rw [eqX_no.2 this]
    · replace h6 : (!eqX y z) = false := h6
      rw [Bool.not_eq_false', eqX_iff] at h6
      conv => whnf
      refine ⟨l.length - (i + 1), [(0, 0), (16, 16)], [(0, .sl 0 none), (1, .sl 16 none), (5, .lf (.int .i64 ((i + 1 : Nat) : Int)))], [(0, some (.row .lent 3 NodeX.ds l)), (16, some (.row .lent 3 NodeX.ds m))], by omega, ⟨rfl, ⟨rfl, rfl, ?_, trivial⟩, ⟨rfl, rfl, trivial⟩⟩, i + 1, by omega, fun j hj => ?_, rfl, rfl, rfl⟩
      · show V.lf (.int .i64 (IntKind.i64.wrap ((i : Int) + 1))) = _
        replace h4 : l.length ≤ 9223372036854775807 := h4
        rw [w64 (by omega) (by omega)]; rfl
      · rcases Nat.lt_or_ge j i with h7 | h7
        · exact g2 j h7
        · obtain rfl : j = i := by omega
          rw [hy, hz, h6]
  · have hi : i = l.length := by have := of_decide_eq_false h5; omega
    conv => whnf
    refine ⟨⟨rfl, ?_⟩⟩
    show _ = [[D.lf (.bool (eqX l m))]]
    have : l = m := by
      apply List.ext_getElem?
      intro j
      rcases Nat.lt_or_ge j l.length with h | h
      · exact g2 j (by omega)
      · rw [List.getElem?_eq_none h, List.getElem?_eq_none (by omega)]
    rw [eqX_iff.2 this]
theorem eqNodeS_ok : FnOk Tryz.prog 37 (cEqS 3 NodeX.ds) := fnOk_of fun x => fnX_at tab_ok (SOk.cons eqNode_ok SOk.nil) mixed (fn := Tryz.f37) (code := body Tryz.f37) ⟨Tryz.func37, rfl, by kernel_rfl, by kernel_rfl, by kernel_rfl, by kernel_rfl⟩ (ev_eqNodeS x)
theorem ev_eqTree : ∀ x, evFnX tab [(37, (cEqS 3 NodeX.ds))] (cEq treeDs) Tryz.f12 (body Tryz.f12) x := by
  rintro ⟨a, b⟩
  conv => whnf
  refine ⟨(a, b), rfl, ?_⟩
  rintro _ _ ⟨rfl, rfl⟩
  conv => whnf
  refine br2 (fun h => ?_) (fun h => ?_)
  · replace h : (!eqX a b) = true := h
    rw [Bool.not_eq_true'] at h
    conv => whnf
    refine ⟨⟨rfl, ?_⟩⟩
    show [[D.lf (.bool false)]] = [[D.lf (.bool (eqX a b))]]
    rw [h]
  · replace h : (!eqX a b) = false := h
    rw [Bool.not_eq_false'] at h
    conv => whnf
    refine ⟨⟨rfl, ?_⟩⟩
    show [[D.lf (.bool true)]] = [[D.lf (.bool (eqX a b))]]
    rw [h]
theorem eqTree_ok : FnOk Tryz.prog 12 (cEq treeDs) := fnOk_of fun x => fnX_at tab_ok (SOk.cons eqNodeS_ok SOk.nil) mixed (fn := Tryz.f12) (code := body Tryz.f12) ⟨Tryz.func12, rfl, by kernel_rfl, by kernel_rfl, by kernel_rfl, by kernel_rfl⟩ (ev_eqTree x)
end Go.Vm
namespace Go.Vm
open Go.Proofs
set_option maxRecDepth 100000
set_option linter.unusedVariables false
set_option linter.unusedSimpArgs false

def pairAt (k : Int) : RngX := ⟨mkT k, mkT (k + 1)⟩
def markP (k : Int) (n : Nat) : List RngX := (List.range n).map fun i : Nat => pairAt (k + 2 * (i : Int))
theorem markP_len (k : Int) (n : Nat) : (markP k n).length = n := by simp [markP]
theorem markP_get {k : Int} {n i : Nat} (h : i < n) : (markP k n)[i]? = some (pairAt (k + 2 * (i : Int))) := by simp [markP, h]
theorem eq_markP {l : List RngX} {k : Int} {n : Nat} (h : l.length = n) (h2 : ∀ j, j < n → l[j]? = some (pairAt (k + 2 * (j : Int)))) : l = markP k n := by
  apply List.ext_getElem?
  intro j
  by_cases hj : j < n
  · rw [h2 j hj, markP_get hj]
  · rw [List.getElem?_eq_none (by omega), List.getElem?_eq_none (by rw [markP_len]; omega)]
theorem ev_markPairS : ∀ x, evFnX tab [(39, (pureC MkX [(.rd, false)] [false] (fun x => [[.lf (.int .i64 x.n)]]) (fun x => [[.lf (.string (mkT x.n))]])))] (cMarkS 2 RngX.ds markP 2) Tryz.f79 (body Tryz.f79) x := by
  rintro ⟨⟨l, k, h1, h2⟩, hl⟩
  replace hl : l.length ≤ 1048576 := hl
  conv => whnf
  refine ⟨fun m s h => ∃ (i : Nat) (l' : List RngX), i ≤ l.length ∧ l'.length = l.length ∧ (∀ j, j < i → l'[j]? = some (pairAt (k + 2 * (j : Int)))) ∧ m = l.length - i ∧ s = [(0, .sl 0 none), (1, .lf (.int .i64 (k + 2 * (i : Int)))), (5, .lf (.int .i64 i)), (1000000, .sl 0 none)] ∧ h = [(0, some (.row .own 2 RngX.ds l'))],
    l.length, [(0, 0)], [(0, .sl 0 none), (1, .lf (.int .i64 k)), (5, .lf (.int .i64 0)), (1000000, .sl 0 none)], [(0, some (.row .own 2 RngX.ds l))], ⟨rfl, ⟨rfl, rfl, rfl, rfl, trivial⟩, rfl, trivial⟩, ⟨0, l, by omega, rfl, fun j h => by omega, by omega, by simp, rfl⟩, ?_⟩
  rintro m _ _ ⟨i, l', g1, g2, g3, rfl, rfl, rfl⟩
  conv => whnf
  intro _
  conv => whnf
  refine br2 (fun h5 => ?_) (fun h5 => ?_)
  · have hi : i < l.length := by have := of_decide_eq_true h5; omega
    have hil : i < l'.length := by omega
    obtain ⟨y, hy⟩ := getL (l := l') (j := i) hil
    have hk0 : 0 ≤ k + 2 * (i : Int) ∧ k + 2 * (i : Int) ≤ 1125899920000000 := by omega
    have hk1 : k + 2 * ((i + 1 : Nat) : Int) = k + 2 * (i : Int) + 2 := by omega
    have g3' : ∀ z, z = pairAt (k + 2 * (i : Int)) → ∀ j, j < i + 1 → (l'.set i z)[j]? = some (pairAt (k + 2 * (j : Int))) := by
      rintro z rfl j hj
      rw [List.getElem?_set]
      by_cases e : i = j
      · subst e; rw [if_pos rfl, if_pos (by omega)]
      · rw [if_neg e]; exact g3 j (by omega)
    generalize hq : k + 2 * (i : Int) = q at *
    obtain ⟨hq0, hq1⟩ := hk0
    let q1 : Int := IntKind.i64.wrap (q + 1)
    have w1 : q1 = q + 1 := w64 (by omega) (by omega)
    have w2 : IntKind.i64.wrap (q1 + 1) = q + 2 := by rw [w1, w64 (by omega) (by omega)]; omega
    conv => whnf
    refine ⟨⟨q, by omega, by omega⟩, rfl, ?_⟩
    rintro _ _ ⟨rfl, rfl⟩
    conv => whnf
    refine ⟨Int.natCast_nonneg _, (show (i : Int) < (l'.length : Int) by omega), ?_⟩
    conv => whnf
    refine ex2 y (nthI hy) ?_
    conv => whnf
    refine ⟨⟨mkT q, y.hi⟩, rfl, ?_⟩
    conv => whnf
    refine ⟨⟨q1, by omega, by omega⟩, rfl, ?_⟩
    rintro _ _ ⟨rfl, rfl⟩
    conv => whnf
    refine ⟨Int.natCast_nonneg _, Int.ofNat_lt.2 (by simp only [List.length_set]; exact hil), ?_⟩
    conv => whnf
    refine ex2 _ (nth_setI hil) ?_
    conv => whnf
    refine ⟨⟨mkT q, mkT q1⟩, rfl, ?_⟩
    conv => whnf
    refine ⟨l.length - (i + 1), [(0, 0)], [(0, .sl 0 none), (1, .lf (.int .i64 (k + 2 * ((i + 1 : Nat) : Int)))), (5, .lf (.int .i64 ((i + 1 : Nat) : Int))), (1000000, .sl 0 none)], [(0, some (.row .own 2 RngX.ds (l'.set i (pairAt q))))], by omega, ⟨rfl, ⟨rfl, ?_, ?_, rfl, trivial⟩, ?_, trivial⟩, i + 1, _, by omega, by simp; omega, g3' _ rfl, rfl, rfl, rfl⟩
    · show V.lf (.int .i64 (IntKind.i64.wrap (q1 + 1))) = _
      rw [w2, hk1]
    · show V.lf (.int .i64 (IntKind.i64.wrap ((i : Int) + 1))) = _
      rw [w64 (by omega) (by omega)]; rfl
    · show some (Ob.row .own 2 RngX.ds ((l'.set i _).set i (⟨mkT q, mkT q1⟩ : RngX))) = _
      rw [w1, List.set_set]; rfl
  · have hi : i = l.length := by have := of_decide_eq_false h5; omega
    subst hi
    have e1 := eq_markP g2 g3
    conv => whnf
    refine ⟨⟨?_, rfl⟩⟩
    show [[D.row 2 RngX.ds l']] = _
    rw [e1]
theorem markPairS_ok : FnOk Tryz.prog 79 (cMarkS 2 RngX.ds markP 2) := fnOk_of fun x => fnX_at tab_ok (SOk.cons markText_ok SOk.nil) mixed (fn := Tryz.f79) (code := body Tryz.f79) ⟨Tryz.func79, rfl, by kernel_rfl, by kernel_rfl, by kernel_rfl, by kernel_rfl⟩ (ev_markPairS x)
end Go.Vm
namespace Go.Vm
open Go.Proofs
set_option maxRecDepth 100000
set_option linter.unusedVariables false
set_option linter.unusedSimpArgs false

structure NodesY where
  l : List NodeX
  hl : l.length ≤ 1048576
  h : ∀ n ∈ l, nodeB n
/-- A node that may not be there yet. -/
def nodeO : Option NodeX → List D
  | none => [.lf (.slice none 0 0), .lf (.slice none 0 0), .lf (.slice none 0 0)]
  | some n => n.ds
theorem nodeO_len (o : Option NodeX) : (nodeO o).length = 3 := by cases o <;> rfl
theorem ev_toNodeS : ∀ x, evFnX tab [(1000006, cGh), (72, (pureC NodeY [(.rd, true)] [true] (fun x => [x.x.ds]) (fun x => [x.x.ds])))] (pureC NodesY [(.rd, false)] [false] (fun x => [[.row 3 NodeX.ds x.l]]) (fun x => [[.row 3 NodeX.ds x.l]])) Tryz.f31 (body Tryz.f31) x := by
  rintro ⟨l, hl, hb⟩
  replace hl : l.length ≤ 1048576 := hl
  conv => whnf
  intro h1
  conv => whnf
  refine ⟨Int.natCast_nonneg _, rfl, ?_, ?_⟩
  · show (l.length : Int) ≤ (4294967296 : Nat); omega
  conv => whnf
  refine ⟨Option NodeX, nodeO, none, nodeO_len, rfl, ?_⟩
  conv => whnf
  refine ⟨fun m s h => ∃ (i : Nat) (l' : List (Option NodeX)), i ≤ l.length ∧ l'.length = l.length ∧ (∀ j y, j < i → l[j]? = some y → l'[j]? = some (some y)) ∧ m = l.length - i ∧ s = [(0, .sl 0 none), (3, .sl 112 none), (4, .lf (.int .i64 i))] ∧ h = [(112, some (.row .own 3 nodeO l')), (0, some (.row .lent 3 NodeX.ds l))],
    l.length, [(112, 112), (0, 0)], [(0, .sl 0 none), (3, .sl 112 none), (4, .lf (.int .i64 0))], [(112, some (.row .own 3 nodeO (List.replicate (l.length : Int).toNat none))), (0, some (.row .lent 3 NodeX.ds l))], ⟨rfl, ⟨rfl, rfl, rfl, trivial⟩, ⟨rfl, rfl, trivial⟩⟩,
    ⟨0, _, by omega, by rw [List.length_replicate, Int.toNat_natCast], fun j y h => by omega, by omega, rfl, rfl⟩, ?_⟩
  rintro m _ _ ⟨i, l', g1, g2, g3, rfl, rfl, rfl⟩
  conv => whnf
  intro _
  conv => whnf
  refine br2 (fun h5 => ?_) (fun h5 => ?_)
  · have hi : i < l.length := by have := of_decide_eq_true h5; omega
    obtain ⟨y, hy⟩ := getL hi
    obtain ⟨z, hz⟩ := getL (l := l') (j := i) (by omega)
    conv => whnf
    refine ⟨Int.natCast_nonneg _, ltI hy, ?_⟩
    conv => whnf
    refine ex2 _ (nthI hy) ?_
    conv => whnf
    refine ⟨⟨y, hb y (List.mem_of_getElem? hy)⟩, rfl, ?_⟩
    rintro _ _ ⟨rfl, rfl⟩
    conv => whnf
    have back : ∀ {s' : Sl} {h' : Hp}, Le [(112, 112), (0, 0)] [(0, .sl 0 none), (3, .sl 112 none), (4, .lf (.int .i64 ((i + 1 : Nat) : Int)))] [(112, some (.row .own 3 nodeO (l'.set i (some y)))), (0, some (.row .lent 3 NodeX.ds l))] s' h' →
        ∃ m' ρ s'' h'', m' < l.length - i ∧ Le ρ s'' h'' s' h' ∧ ∃ (i : Nat) (l' : List (Option NodeX)), i ≤ l.length ∧ l'.length = l.length ∧ (∀ j y, j < i → l[j]? = some y → l'[j]? = some (some y)) ∧ m' = l.length - i ∧ s'' = [(0, .sl 0 none), (3, .sl 112 none), (4, .lf (.int .i64 i))] ∧ h'' = [(112, some (.row .own 3 nodeO l')), (0, some (.row .lent 3 NodeX.ds l))] := fun hle =>
      ⟨l.length - (i + 1), _, _, _, by omega, hle, i + 1, l'.set i (some y), by omega, by simpa using g2, fun j w hj hw => by
        rw [List.getElem?_set]
        by_cases e : i = j
        · subst e; rw [if_pos rfl, if_pos (by omega)]; rw [hy] at hw; rw [Option.some.inj hw]
        · rw [if_neg e]; exact g3 j w (by omega) hw, rfl, rfl, rfl⟩
    rcases z with _ | z
    all_goals
      refine ⟨Int.natCast_nonneg _, ltI hz, ?_⟩
      conv => whnf
      refine ex2 _ (nthI hz) ?_
      conv => whnf
      refine ⟨some y, rfl, ?_⟩
      conv => whnf
      exact back ⟨rfl, ⟨rfl, rfl, incI hi (by omega), trivial⟩, by rfl, rfl, trivial⟩
  · have hi : i = l.length := by have := of_decide_eq_false h5; omega
    subst hi
    conv => whnf
    refine ⟨[.enc 112], ?_⟩
    conv => whnf
    refine ⟨NodeX, NodeX.ds, l, fun _ => rfl, ?_, ?_⟩
    · apply List.ext_getElem?
      intro j
      rw [List.getElem?_map, List.getElem?_map]
      rcases Nat.lt_or_ge j l.length with h | h
      · obtain ⟨y, hy⟩ := getL h
        rw [g3 j y h hy, hy]; rfl
      · rw [List.getElem?_eq_none (by omega), List.getElem?_eq_none (by omega)]; rfl
    conv => whnf
    exact ⟨⟨rfl, rfl⟩⟩
theorem toNodeS_ok : FnOk Tryz.prog 31 (pureC NodesY [(.rd, false)] [false] (fun x => [[.row 3 NodeX.ds x.l]]) (fun x => [[.row 3 NodeX.ds x.l]])) := fnOk_of fun x => fnX_at tab_ok (SOk.cons gh_ok (SOk.cons toNode_ok SOk.nil)) mixed (fn := Tryz.f31) (code := body Tryz.f31) ⟨Tryz.func31, rfl, by kernel_rfl, by kernel_rfl, by kernel_rfl, by kernel_rfl⟩ (ev_toNodeS x)
theorem ev_toTree : ∀ x, evFnX tab [(31, (pureC NodesY [(.rd, false)] [false] (fun x => [[.row 3 NodeX.ds x.l]]) (fun x => [[.row 3 NodeX.ds x.l]])))] (pureC NodesY [(.rd, true)] [true] (fun x => [treeDs x.l]) (fun x => [treeDs x.l])) Tryz.f8 (body Tryz.f8) x := by
  rintro ⟨l, hl, hb⟩
  conv => whnf
  refine ⟨⟨l, hl, hb⟩, rfl, ?_⟩
  rintro _ _ ⟨rfl, rfl⟩
  conv => whnf
  exact ⟨⟨rfl, rfl⟩⟩
theorem toTree_ok : FnOk Tryz.prog 8 (pureC NodesY [(.rd, true)] [true] (fun x => [treeDs x.l]) (fun x => [treeDs x.l])) := fnOk_of fun x => fnX_at tab_ok (SOk.cons toNodeS_ok SOk.nil) mixed (fn := Tryz.f8) (code := body Tryz.f8) ⟨Tryz.func8, rfl, by kernel_rfl, by kernel_rfl, by kernel_rfl, by kernel_rfl⟩ (ev_toTree x)
/-! Marks -/
def markS (k : Int) (n : Nat) : List ByteArray := (List.range n).map fun i : Nat => mkT (k + (i : Int))
theorem markS_len (k : Int) (n : Nat) : (markS k n).length = n := by simp [markS]
theorem markS_get {k : Int} {n i : Nat} (h : i < n) : (markS k n)[i]? = some (mkT (k + (i : Int))) := by simp [markS, h]
def markI (k : Int) (n : Nat) : List Int := (List.range n).map fun i : Nat => k + (i : Int)
theorem markI_len (k : Int) (n : Nat) : (markI k n).length = n := by simp [markI]
theorem markI_get {k : Int} {n i : Nat} (h : i < n) : (markI k n)[i]? = some (k + (i : Int)) := by simp [markI, h]
theorem eq_mark {α : Type} {l m : List α} {n : Nat} (h : l.length = n) (hm : m.length = n) (h2 : ∀ j, j < n → l[j]? = m[j]?) : l = m := by
  apply List.ext_getElem?
  intro j
  by_cases hj : j < n
  · exact h2 j hj
  · rw [List.getElem?_eq_none (by omega), List.getElem?_eq_none (by omega)]
theorem ev_markStringS : ∀ x, evFnX tab [(39, (pureC MkX [(.rd, false)] [false] (fun x => [[.lf (.int .i64 x.n)]]) (fun x => [[.lf (.string (mkT x.n))]])))] (cMarkS 1 strE1 markS 1) Tryz.f80 (body Tryz.f80) x := by
  rintro ⟨⟨l, k, h1, h2⟩, hl⟩
  replace hl : l.length ≤ 1048576 := hl
  conv => whnf
  let S0 : Nat → Sl := fun i => [(0, .sl 0 none), (1, .lf (.int .i64 (k + (i : Int)))), (5, .lf (.int .i64 i)), (1000000, .sl 0 none)]
  refine ⟨fun m s h => ∃ (i : Nat) (l' : List ByteArray), i ≤ l.length ∧ l'.length = l.length ∧ (∀ j, j < i → l'[j]? = (markS k l.length)[j]?) ∧ m = l.length - i ∧ s = S0 i ∧ h = [(0, some (.row .own 1 strE1 l'))],
    l.length, [(0, 0)], S0 0, [(0, some (.row .own 1 strE1 l))], ⟨rfl, ⟨rfl, ?_, rfl, rfl, trivial⟩, rfl, trivial⟩, ⟨0, l, by omega, rfl, fun j h => by omega, by omega, rfl, rfl⟩, ?_⟩
  · show V.lf (.int .i64 k) = V.lf (.int .i64 (k + ((0 : Nat) : Int)))
    rw [show k + ((0 : Nat) : Int) = k by omega]
  rintro m _ _ ⟨i, l', g1, g2, g3, rfl, rfl, rfl⟩
  conv => whnf
  intro _
  conv => whnf
  refine br2 (fun h5 => ?_) (fun h5 => ?_)
  · have hi : i < l.length := by have := of_decide_eq_true h5; omega
    obtain ⟨y, hy⟩ := getL (l := l') (j := i) (by omega)
    have w1 : IntKind.i64.wrap (k + (i : Int) + 1) = k + ((i + 1 : Nat) : Int) := by rw [w64 (by omega) (by omega)]; omega
    have fin : ∀ {s' : Sl} {h' : Hp}, Le [(0, 0)] (S0 (i + 1)) [(0, some (.row .own 1 strE1 (l'.set i (mkT (k + (i : Int))))))] s' h' →
        ∃ m' ρ s'' h'', m' < l.length - i ∧ Le ρ s'' h'' s' h' ∧ ∃ (i : Nat) (l' : List ByteArray), i ≤ l.length ∧ l'.length = l.length ∧ (∀ j, j < i → l'[j]? = (markS k l.length)[j]?) ∧ m' = l.length - i ∧ s'' = S0 i ∧ h'' = [(0, some (.row .own 1 strE1 l'))] := fun hle =>
      ⟨l.length - (i + 1), _, _, _, by omega, hle, i + 1, l'.set i (mkT (k + (i : Int))), by omega, by simpa using g2, fun j hj => by
        rw [List.getElem?_set]
        by_cases e : i = j
        · subst e; rw [if_pos rfl, if_pos (by omega), markS_get hi]
        · rw [if_neg e]; exact g3 j (by omega), rfl, rfl, rfl⟩
    conv => whnf
    first | (refine ⟨⟨k + (i : Int), by omega, by omega⟩, rfl, ?_⟩; rintro _ _ ⟨rfl, rfl⟩; conv => whnf) | skip
    refine ⟨Int.natCast_nonneg _, ltI hy, ?_⟩
    conv => whnf
    refine ex2 _ (nthI hy) ?_
    conv => whnf
    refine ⟨mkT (k + (i : Int)), rfl, ?_⟩
    conv => whnf
    refine fin ⟨rfl, ⟨rfl, ?_, incI hi (by omega), rfl, trivial⟩, by rfl, trivial⟩
    show V.lf (.int .i64 (IntKind.i64.wrap (k + (i : Int) + 1))) = _
    rw [w1]
  · have hi : i = l.length := by have := of_decide_eq_false h5; omega
    subst hi
    conv => whnf
    refine ⟨⟨?_, ?_⟩⟩
    · show [[D.row 1 strE1 l']] = [[D.row 1 strE1 (markS k l.length)]]
      rw [eq_mark g2 (markS_len _ _) g3]
    · show [[D.lf (.int .i64 (k + (l.length : Int)))]] = [[D.lf (.int .i64 (k + 1 * (l.length : Int)))]]
      rw [Int.one_mul]
theorem markStringS_ok : FnOk Tryz.prog 80 (cMarkS 1 strE1 markS 1) := fnOk_of fun x => fnX_at tab_ok (SOk.cons markText_ok SOk.nil) mixed (fn := Tryz.f80) (code := body Tryz.f80) ⟨Tryz.func80, rfl, by kernel_rfl, by kernel_rfl, by kernel_rfl, by kernel_rfl⟩ (ev_markStringS x)
theorem ev_markIntS : ∀ x, evFnX tab [] (cMarkS 1 intE1 markI 1) Tryz.f81 (body Tryz.f81) x := by
  rintro ⟨⟨l, k, h1, h2⟩, hl⟩
  replace hl : l.length ≤ 1048576 := hl
  conv => whnf
  let S0 : Nat → Sl := fun i => [(0, .sl 0 none), (1, .lf (.int .i64 (k + (i : Int)))), (5, .lf (.int .i64 i)), (1000000, .sl 0 none)]
  refine ⟨fun m s h => ∃ (i : Nat) (l' : List Int), i ≤ l.length ∧ l'.length = l.length ∧ (∀ j, j < i → l'[j]? = (markI k l.length)[j]?) ∧ m = l.length - i ∧ s = S0 i ∧ h = [(0, some (.row .own 1 intE1 l'))],
    l.length, [(0, 0)], S0 0, [(0, some (.row .own 1 intE1 l))], ⟨rfl, ⟨rfl, ?_, rfl, rfl, trivial⟩, rfl, trivial⟩, ⟨0, l, by omega, rfl, fun j h => by omega, by omega, rfl, rfl⟩, ?_⟩
  · show V.lf (.int .i64 k) = V.lf (.int .i64 (k + ((0 : Nat) : Int)))
    rw [show k + ((0 : Nat) : Int) = k by omega]
  rintro m _ _ ⟨i, l', g1, g2, g3, rfl, rfl, rfl⟩
  conv => whnf
  intro _
  conv => whnf
  refine br2 (fun h5 => ?_) (fun h5 => ?_)
  · have hi : i < l.length := by have := of_decide_eq_true h5; omega
    obtain ⟨y, hy⟩ := getL (l := l') (j := i) (by omega)
    have w1 : IntKind.i64.wrap (k + (i : Int) + 1) = k + ((i + 1 : Nat) : Int) := by rw [w64 (by omega) (by omega)]; omega
    have fin : ∀ {s' : Sl} {h' : Hp}, Le [(0, 0)] (S0 (i + 1)) [(0, some (.row .own 1 intE1 (l'.set i (k + (i : Int)))))] s' h' →
        ∃ m' ρ s'' h'', m' < l.length - i ∧ Le ρ s'' h'' s' h' ∧ ∃ (i : Nat) (l' : List Int), i ≤ l.length ∧ l'.length = l.length ∧ (∀ j, j < i → l'[j]? = (markI k l.length)[j]?) ∧ m' = l.length - i ∧ s'' = S0 i ∧ h'' = [(0, some (.row .own 1 intE1 l'))] := fun hle =>
      ⟨l.length - (i + 1), _, _, _, by omega, hle, i + 1, l'.set i (k + (i : Int)), by omega, by simpa using g2, fun j hj => by
        rw [List.getElem?_set]
        by_cases e : i = j
        · subst e; rw [if_pos rfl, if_pos (by omega), markI_get hi]
        · rw [if_neg e]; exact g3 j (by omega), rfl, rfl, rfl⟩
    conv => whnf
    first | (refine ⟨⟨k + (i : Int), by omega, by omega⟩, rfl, ?_⟩; rintro _ _ ⟨rfl, rfl⟩; conv => whnf) | skip
    refine ⟨Int.natCast_nonneg _, ltI hy, ?_⟩
    conv => whnf
    refine ex2 _ (nthI hy) ?_
    conv => whnf
    refine ⟨k + (i : Int), rfl, ?_⟩
    conv => whnf
    refine fin ⟨rfl, ⟨rfl, ?_, incI hi (by omega), rfl, trivial⟩, by rfl, trivial⟩
    show V.lf (.int .i64 (IntKind.i64.wrap (k + (i : Int) + 1))) = _
    rw [w1]
  · have hi : i = l.length := by have := of_decide_eq_false h5; omega
    subst hi
    conv => whnf
    refine ⟨⟨?_, ?_⟩⟩
    · show [[D.row 1 intE1 l']] = [[D.row 1 intE1 (markI k l.length)]]
      rw [eq_mark g2 (markI_len _ _) g3]
    · show [[D.lf (.int .i64 (k + (l.length : Int)))]] = [[D.lf (.int .i64 (k + 1 * (l.length : Int)))]]
      rw [Int.one_mul]
theorem markIntS_ok : FnOk Tryz.prog 81 (cMarkS 1 intE1 markI 1) := fnOk_of fun x => fnX_at tab_ok (SOk.nil) mixed (fn := Tryz.f81) (code := body Tryz.f81) ⟨Tryz.func81, rfl, by kernel_rfl, by kernel_rfl, by kernel_rfl, by kernel_rfl⟩ (ev_markIntS x)
end Go.Vm
namespace Go.Vm
open Go.Proofs
set_option maxRecDepth 100000
set_option linter.unusedVariables false
set_option linter.unusedSimpArgs false

def nodeW (n : NodeX) : Int := 2 * (n.ps.length : Int) + n.keys.length + n.kids.length
def markNode (k : Int) (n : NodeX) : NodeX := ⟨markP k n.ps.length, markS (k + 2 * (n.ps.length : Int)) n.keys.length, markI (k + 2 * (n.ps.length : Int) + n.keys.length) n.kids.length⟩
def nodesW : List NodeX → Int
  | [] => 0
  | n :: l => nodeW n + nodesW l
def markNs (k : Int) : List NodeX → List NodeX
  | [] => []
  | n :: l => markNode k n :: markNs (k + nodeW n) l
theorem nodeW_pos (n : NodeX) : 0 ≤ nodeW n := by unfold nodeW; omega
theorem nodeW_le {n : NodeX} (h : nodeB n) : nodeW n ≤ 4194304 := by obtain ⟨a, b, c⟩ := h; unfold nodeW; omega
theorem nodesW_pos (l : List NodeX) : 0 ≤ nodesW l := by
  induction l with
  | nil => exact Int.le_refl 0
  | cons n l ih => have := nodeW_pos n; simp only [nodesW]; omega
theorem nodesW_le {l : List NodeX} (h : ∀ n ∈ l, nodeB n) : nodesW l ≤ 4194304 * l.length := by
  induction l with
  | nil => simp [nodesW]
  | cons n l ih =>
    have a := nodeW_le (h n (by simp))
    have b := ih fun m hm => h m (by simp [hm])
    simp only [nodesW, List.length_cons]; omega
theorem nodesW_take {l : List NodeX} {i : Nat} {n : NodeX} (h : l[i]? = some n) : nodesW (l.take (i + 1)) = nodesW (l.take i) + nodeW n := by
  induction l generalizing i with
  | nil => simp at h
  | cons m l ih =>
    cases i with
    | zero => obtain rfl : m = n := by simpa using h
              simp [nodesW]
    | succ i => have := ih (i := i) (by simpa using h); simp only [List.take_succ_cons, nodesW] at *; omega
theorem nodesW_take_le (l : List NodeX) (i : Nat) : nodesW (l.take i) ≤ nodesW l := by
  induction l generalizing i with
  | nil => simp
  | cons m l ih =>
    cases i with
    | zero => exact nodesW_pos _
    | succ i => have := ih i; simp only [List.take_succ_cons, nodesW] at *; omega
theorem markNs_len (k : Int) (l : List NodeX) : (markNs k l).length = l.length := by
  induction l generalizing k with
  | nil => rfl
  | cons n l ih => simp [markNs, ih]
theorem markNs_get {k : Int} {l : List NodeX} {i : Nat} {n : NodeX} (h : l[i]? = some n) : (markNs k l)[i]? = some (markNode (k + nodesW (l.take i)) n) := by
  induction l generalizing i k with
  | nil => simp at h
  | cons m l ih =>
    cases i with
    | zero => obtain rfl : m = n := by simpa using h
              simp [markNs, nodesW]
    | succ i => rw [markNs, List.getElem?_cons_succ, ih (by simpa using h), List.take_succ_cons, nodesW, Int.add_assoc]
theorem markNs_set {k : Int} {l l' : List NodeX} {i : Nat} {n : NodeX} (hn : l[i]? = some n) (hl : l'.length = l.length) (h1 : ∀ j, j < i → l'[j]? = (markNs k l)[j]?) :
    ∀ j, j < i + 1 → (l'.set i (markNode (k + nodesW (l.take i)) n))[j]? = (markNs k l)[j]? := by
  intro j hj
  have hi : i < l.length := by rcases Nat.lt_or_ge i l.length with h | h; exact h; rw [List.getElem?_eq_none h] at hn; cases hn
  rw [List.getElem?_set]
  by_cases e : i = j
  · subst e; rw [if_pos rfl, if_pos (by omega), markNs_get hn]
  · rw [if_neg e]; exact h1 j (by omega)
theorem markNs_all {k : Int} {l l' : List NodeX} (hl : l'.length = l.length) (h : ∀ j, j < l.length → l'[j]? = (markNs k l)[j]?) : l' = markNs k l := eq_mark hl (markNs_len k l) h
structure MarkNX where
  l : List NodeX
  k : Int
  h1 : 0 ≤ k
  h2 : k + nodesW l ≤ 1125899906842624
  hl : l.length ≤ 1048576
  hb : ∀ n ∈ l, nodeB n
def cMarkN (d : Bool) : Con := { X := MarkNX, params := [(.mut, d), (.rd, false)], res := [false], resOwn := true, ins := fun x => [[.row 3 NodeX.ds x.l], [.lf (.int .i64 x.k)]], post := fun x outs r => outs = [[.row 3 NodeX.ds (markNs x.k x.l)]] ∧ r = [[.lf (.int .i64 (x.k + nodesW x.l))]] }
theorem ev_markNodeS : ∀ x, evFnX tab [(1000004, cGh), (1000003, cGh), (79, (cMarkS 2 RngX.ds markP 2)), (80, (cMarkS 1 strE1 markS 1)), (81, (cMarkS 1 intE1 markI 1))] (cMarkN false) Tryz.f38 (body Tryz.f38) x := by
  rintro ⟨l, k, h1, h2, hl, hb⟩
  replace hl : l.length ≤ 1048576 := hl
  replace hb : ∀ n ∈ l, nodeB n := hb
  conv => whnf
  let S0 : Nat → Sl := fun i => [(0, .sl 0 none), (1, .lf (.int .i64 (k + nodesW (l.take i)))), (5, .lf (.int .i64 i)), (1000000, .sl 0 none)]
  refine ⟨fun m s h => ∃ (i : Nat) (l' : List NodeX), i ≤ l.length ∧ l'.length = l.length ∧ (∀ j, j < i → l'[j]? = (markNs k l)[j]?) ∧ (∀ j, i ≤ j → l'[j]? = l[j]?) ∧ m = l.length - i ∧ s = S0 i ∧ h = [(0, some (.row .own 3 NodeX.ds l'))],
    l.length, [(0, 0)], S0 0, [(0, some (.row .own 3 NodeX.ds l))], ⟨rfl, ⟨rfl, ?_, rfl, rfl, trivial⟩, rfl, trivial⟩, ⟨0, l, by omega, rfl, fun j h => by omega, fun j _ => rfl, by omega, rfl, rfl⟩, ?_⟩
  · show V.lf (.int .i64 k) = V.lf (.int .i64 (k + 0))
    rw [Int.add_zero]
  rintro m _ _ ⟨i, l', g1, g2, g3, g4, rfl, rfl, rfl⟩
  conv => whnf
  intro _
  conv => whnf
  refine br2 (fun h5 => ?_) (fun h5 => ?_)
  · have hi : i < l.length := by have := of_decide_eq_true h5; omega
    obtain ⟨y, hy⟩ := getL hi
    have hy' : l'[i]? = some y := (g4 i (Nat.le_refl _)).trans hy
    obtain ⟨ps, keys, kids⟩ := y
    obtain ⟨b1, b2, b3⟩ : ps.length ≤ 1048576 ∧ keys.length ≤ 1048576 ∧ kids.length ≤ 1048576 := hb _ (List.mem_of_getElem? hy)
    have t1 := nodesW_take hy
    have t2 := nodesW_take_le l (i + 1)
    have t3 := nodesW_pos (l.take i)
    have s1 := markNs_set (k := k) hy g2 g3
    replace t1 : nodesW (l.take (i + 1)) = nodesW (l.take i) + (2 * (ps.length : Int) + keys.length + kids.length) := t1
    conv => whnf
    refine ⟨[.foc 0 i 1000], ?_⟩
    conv => whnf
    refine ex2 _ (by rw [nth_eq]; exact hy') ?_
    conv => whnf
    refine ⟨Int.natCast_nonneg _, ltI hy', ?_⟩
    conv => whnf
    refine ⟨Int.toNat_natCast i, ?_⟩
    conv => whnf
    refine ⟨⟨⟨ps, k + nodesW (l.take i), by omega, by omega⟩, b1⟩, rfl, ?_⟩
    rintro _ _ ⟨rfl, rfl⟩
    conv => whnf
    refine ⟨Int.natCast_nonneg _, ltI hy', ?_⟩
    conv => whnf
    refine ⟨Int.toNat_natCast i, ?_⟩
    conv => whnf
    refine ⟨⟨⟨keys, k + nodesW (l.take i) + 2 * (ps.length : Int), by omega, by omega⟩, b2⟩, rfl, ?_⟩
    rintro _ _ ⟨rfl, rfl⟩
    conv => whnf
    refine ⟨Int.natCast_nonneg _, ltI hy', ?_⟩
    conv => whnf
    refine ⟨Int.toNat_natCast i, ?_⟩
    conv => whnf
    refine ⟨⟨⟨kids, k + nodesW (l.take i) + 2 * (ps.length : Int) + 1 * (keys.length : Int), by omega, by omega⟩, b3⟩, rfl, ?_⟩
    rintro _ _ ⟨rfl, rfl⟩
    conv => whnf
    refine ⟨[.unf 0], ?_⟩
    conv => whnf
    refine ⟨markNode (k + nodesW (l.take i)) ⟨ps, keys, kids⟩, ?_, ?_⟩
    · show [D.row 2 RngX.ds (markP (k + nodesW (l.take i)) ps.length), D.row 1 strE1 (markS (k + nodesW (l.take i) + 2 * (ps.length : Int)) keys.length), D.row 1 intE1 (markI (k + nodesW (l.take i) + 2 * (ps.length : Int) + (keys.length : Int)) kids.length)] = [D.row 2 RngX.ds (markP (k + nodesW (l.take i)) ps.length), D.row 1 strE1 (markS (k + nodesW (l.take i) + 2 * (ps.length : Int)) keys.length), D.row 1 intE1 (markI (k + nodesW (l.take i) + 2 * (ps.length : Int) + 1 * (keys.length : Int)) kids.length)]
      rw [Int.one_mul]
    conv => whnf
    refine ⟨l.length - (i + 1), [(0, 0)], S0 (i + 1), [(0, some (.row .own 3 NodeX.ds (l'.set i (markNode (k + nodesW (l.take i)) ⟨ps, keys, kids⟩))))], by omega, ⟨rfl, ⟨rfl, ?_, incI hi (by omega), rfl, trivial⟩, by rfl, trivial⟩, i + 1, _, by omega, by simpa using g2, s1, fun j hj => ?_, rfl, rfl, rfl⟩
    · show V.lf (.int .i64 (k + nodesW (l.take i) + 2 * (ps.length : Int) + 1 * (keys.length : Int) + 1 * (kids.length : Int))) = V.lf (.int .i64 (k + nodesW (l.take (i + 1))))
      rw [t1, show k + nodesW (l.take i) + 2 * (ps.length : Int) + 1 * (keys.length : Int) + 1 * (kids.length : Int) = k + (nodesW (l.take i) + (2 * (ps.length : Int) + keys.length + kids.length)) by omega]
    · rw [List.getElem?_set, if_neg (by omega)]; exact g4 j (by omega)
  · have hi : i = l.length := by have := of_decide_eq_false h5; omega
    subst hi
    conv => whnf
    refine ⟨⟨?_, ?_⟩⟩
    · show [[D.row 3 NodeX.ds l']] = [[D.row 3 NodeX.ds (markNs k l)]]
      rw [markNs_all g2 g3]
    · show [[D.lf (.int .i64 (k + nodesW (l.take l.length)))]] = [[D.lf (.int .i64 (k + nodesW l))]]
      rw [List.take_length]
theorem markNodeS_ok : FnOk Tryz.prog 38 (cMarkN false) := fnOk_of fun x => fnX_at tab_ok (SOk.cons gh_ok (SOk.cons gh_ok (SOk.cons markPairS_ok (SOk.cons markStringS_ok (SOk.cons markIntS_ok SOk.nil))))) mixed (fn := Tryz.f38) (code := body Tryz.f38) ⟨Tryz.func38, rfl, by kernel_rfl, by kernel_rfl, by kernel_rfl, by kernel_rfl⟩ (ev_markNodeS x)
theorem ev_markTree : ∀ x, evFnX tab [(38, (cMarkN false))] (cMarkN true) Tryz.f13 (body Tryz.f13) x := by
  rintro ⟨l, k, h1, h2, hl, hb⟩
  conv => whnf
  refine ⟨⟨l, k, h1, h2, hl, hb⟩, rfl, ?_⟩
  rintro _ _ ⟨rfl, rfl⟩
  conv => whnf
  exact ⟨⟨rfl, rfl⟩⟩
theorem markTree_ok : FnOk Tryz.prog 13 (cMarkN true) := fnOk_of fun x => fnX_at tab_ok (SOk.cons markNodeS_ok SOk.nil) mixed (fn := Tryz.f13) (code := body Tryz.f13) ⟨Tryz.func13, rfl, by kernel_rfl, by kernel_rfl, by kernel_rfl, by kernel_rfl⟩ (ev_markTree x)
end Go.Vm
namespace Go.Vm
open Go.Proofs
set_option maxRecDepth 100000
set_option linter.unusedVariables false
set_option linter.unusedSimpArgs false
set_option maxHeartbeats 4000000

theorem ev_eqRecS : ∀ x, evFnX tab [(135, cEqRec)] (cEqS 5 RecX.ds) Tryz.f85 (body Tryz.f85) x := by
  rintro ⟨l, m⟩
  conv => whnf
  intro h1
  conv => whnf
  intro h2
  conv => whnf
  refine br2 (fun h3 => ?_) (fun h3 => ?_)
  · conv => whnf
    refine ⟨⟨rfl, ?_⟩⟩
    show _ = [[D.lf (.bool (eqX l m))]]
    have : l ≠ m := by rintro rfl; simp at h3
    rw [eqX_no.2 this]
  have hl : l.length = m.length := by
    replace h3 : ((l.length : Int) != (m.length : Int)) = false := h3
    simp at h3; omega
  conv => whnf
  refine ⟨fun k s h => ∃ i : Nat, i ≤ l.length ∧ (∀ j, j < i → l[j]? = m[j]?) ∧ k = l.length - i ∧ s = [(0, .sl 0 none), (1, .sl 16 none), (5, .lf (.int .i64 i))] ∧ h = [(0, some (.row .lent 5 RecX.ds l)), (16, some (.row .lent 5 RecX.ds m))],
    l.length, [(0, 0), (16, 16)], [(0, .sl 0 none), (1, .sl 16 none), (5, .lf (.int .i64 0))], [(0, some (.row .lent 5 RecX.ds l)), (16, some (.row .lent 5 RecX.ds m))], ⟨rfl, ⟨rfl, rfl, rfl, trivial⟩, ⟨rfl, rfl, trivial⟩⟩, ⟨0, by omega, fun j h => by omega, by omega, rfl, rfl⟩, ?_⟩
  rintro k _ _ ⟨i, g1, g2, rfl, rfl, rfl⟩
  conv => whnf
  intro h4
  conv => whnf
  refine br2 (fun h5 => ?_) (fun h5 => ?_)
  · have hi : i < l.length := by have := of_decide_eq_true h5; omega
    obtain ⟨y, hy⟩ : ∃ y, l[i]? = some y := ⟨_, List.getElem?_eq_getElem hi⟩
    have hy2 : nth l ((i : Nat) : Int).toNat = some y := by rw [nth_eq, Int.toNat_natCast]; exact hy
    obtain ⟨z, hz⟩ : ∃ z, m[i]? = some z := ⟨_, List.getElem?_eq_getElem (by omega)⟩
    have hz2 : nth m ((i : Nat) : Int).toNat = some z := by rw [nth_eq, Int.toNat_natCast]; exact hz
    conv => whnf
    refine ⟨Int.natCast_nonneg _, (show (i : Int) < (l.length : Int) by omega), ?_⟩
    conv => whnf
    refine ex2 y hy2 ?_
    conv => whnf
    refine ⟨Int.natCast_nonneg _, (show (i : Int) < (m.length : Int) by omega), ?_⟩
    conv => whnf
    refine ex2 z hz2 ?_
    conv => whnf
    refine ⟨(y, z), rfl, ?_⟩
    rintro _ _ ⟨rfl, rfl⟩
    conv => whnf
    refine br2 (fun h6 => ?_) (fun h6 => ?_)
    · replace h6 : (!eqX y z) = true := h6
      rw [Bool.not_eq_true', eqX_no] at h6
      conv => whnf
      refine ⟨⟨rfl, ?_⟩⟩
      show _ = [[D.lf (.bool (eqX l m))]]
      have : l ≠ m := by rintro rfl; rw [hy] at hz; cases hz; exact h6 rfl
      rw [eqX_no.2 this]
    · replace h6 : (!eqX y z) = false := h6
      rw [Bool.not_eq_false', eqX_iff] at h6
      conv => whnf
      refine ⟨l.length - (i + 1), [(0, 0), (16, 16)], [(0, .sl 0 none), (1, .sl 16 none), (5, .lf (.int .i64 ((i + 1 : Nat) : Int)))], [(0, some (.row .lent 5 RecX.ds l)), (16, some (.row .lent 5 RecX.ds m))], by omega, ⟨rfl, ⟨rfl, rfl, ?_, trivial⟩, ⟨rfl, rfl, trivial⟩⟩, i + 1, by omega, fun j hj => ?_, rfl, rfl, rfl⟩
      · show V.lf (.int .i64 (IntKind.i64.wrap ((i : Int) + 1))) = _
        replace h4 : l.length ≤ 9223372036854775807 := h4
        rw [w64 (by omega) (by omega)]; rfl
      · rcases Nat.lt_or_ge j i with h7 | h7
        · exact g2 j h7
        · obtain rfl : j = i := by omega
          rw [hy, hz, h6]
  · have hi : i = l.length := by have := of_decide_eq_false h5; omega
    conv => whnf
    refine ⟨⟨rfl, ?_⟩⟩
    show _ = [[D.lf (.bool (eqX l m))]]
    have : l = m := by
      apply List.ext_getElem?
      intro j
      rcases Nat.lt_or_ge j l.length with h | h
      · exact g2 j (by omega)
      · rw [List.getElem?_eq_none h, List.getElem?_eq_none (by omega)]
    rw [eqX_iff.2 this]
theorem eqRecS_ok : FnOk Tryz.prog 85 (cEqS 5 RecX.ds) := fnOk_of fun x => fnX_at tab_ok (SOk.cons eqRec_ok SOk.nil) mixed (fn := Tryz.f85) (code := body Tryz.f85) ⟨Tryz.func85, rfl, by kernel_rfl, by kernel_rfl, by kernel_rfl, by kernel_rfl⟩ (ev_eqRecS x)
theorem ev_eqPrep : ∀ x, evFnX tab [(84, (cEq TxX.ds)), (85, (cEqS 5 RecX.ds))] (cEq encP) Tryz.f41 (body Tryz.f41) x := by
  rintro ⟨⟨⟨a, b, c⟩, r⟩, ⟨⟨d, e, f⟩, s⟩⟩
  repeat' ((conv => whnf); first | refine br2 (fun h => ?_) (fun h => ?_) | (refine ⟨((⟨a, b, c⟩ : TxX), (⟨d, e, f⟩ : TxX)), rfl, ?_⟩; rintro _ _ ⟨rfl, rfl⟩) | (refine ⟨(r, s), rfl, ?_⟩; rintro _ _ ⟨rfl, rfl⟩))
  all_goals (conv => whnf)
  all_goals refine ⟨⟨rfl, ?_⟩⟩
  all_goals show _ = [[D.lf (.bool (eqX ((⟨a, b, c⟩, r) : PrpX) (⟨d, e, f⟩, s)))]]
  all_goals congr 4
  all_goals rw [eq_comm]
  all_goals simp_all [eqX_iff, eqX_no]
theorem eqPrep_ok : FnOk Tryz.prog 41 (cEq encP) := fnOk_of fun x => fnX_at tab_ok (SOk.cons eqTx_ok (SOk.cons eqRecS_ok SOk.nil)) mixed (fn := Tryz.f41) (code := body Tryz.f41) ⟨Tryz.func41, rfl, by kernel_rfl, by kernel_rfl, by kernel_rfl, by kernel_rfl⟩ (ev_eqPrep x)
theorem ev_eqPrepS : ∀ x, evFnX tab [(41, (cEq encP))] (cEqS 4 encP) Tryz.f18 (body Tryz.f18) x := by
  rintro ⟨l, m⟩
  conv => whnf
  intro h1
  conv => whnf
  intro h2
  conv => whnf
  refine br2 (fun h3 => ?_) (fun h3 => ?_)
  · conv => whnf
    refine ⟨⟨rfl, ?_⟩⟩
    show _ = [[D.lf (.bool (eqX l m))]]
    have : l ≠ m := by rintro rfl; simp at h3
    rw [eqX_no.2 this]
  have hl : l.length = m.length := by
    replace h3 : ((l.length : Int) != (m.length : Int)) = false := h3
    simp at h3; omega
  conv => whnf
  refine ⟨fun k s h => ∃ i : Nat, i ≤ l.length ∧ (∀ j, j < i → l[j]? = m[j]?) ∧ k = l.length - i ∧ s = [(0, .sl 0 none), (1, .sl 16 none), (5, .lf (.int .i64 i))] ∧ h = [(0, some (.row .lent 4 encP l)), (16, some (.row .lent 4 encP m))],
    l.length, [(0, 0), (16, 16)], [(0, .sl 0 none), (1, .sl 16 none), (5, .lf (.int .i64 0))], [(0, some (.row .lent 4 encP l)), (16, some (.row .lent 4 encP m))], ⟨rfl, ⟨rfl, rfl, rfl, trivial⟩, ⟨rfl, rfl, trivial⟩⟩, ⟨0, by omega, fun j h => by omega, by omega, rfl, rfl⟩, ?_⟩
  rintro k _ _ ⟨i, g1, g2, rfl, rfl, rfl⟩
  conv => whnf
  intro h4
  conv => whnf
  refine br2 (fun h5 => ?_) (fun h5 => ?_)
  · have hi : i < l.length := by have := of_decide_eq_true h5; omega
    obtain ⟨y, hy⟩ : ∃ y, l[i]? = some y := ⟨_, List.getElem?_eq_getElem hi⟩
    have hy2 : nth l ((i : Nat) : Int).toNat = some y := by rw [nth_eq, Int.toNat_natCast]; exact hy
    obtain ⟨z, hz⟩ : ∃ z, m[i]? = some z := ⟨_, List.getElem?_eq_getElem (by omega)⟩
    have hz2 : nth m ((i : Nat) : Int).toNat = some z := by rw [nth_eq, Int.toNat_natCast]; exact hz
    conv => whnf
    refine ⟨Int.natCast_nonneg _, (show (i : Int) < (l.length : Int) by omega), ?_⟩
    conv => whnf
    refine ex2 y hy2 ?_
    conv => whnf
    refine ⟨Int.natCast_nonneg _, (show (i : Int) < (m.length : Int) by omega), ?_⟩
    conv => whnf
    refine ex2 z hz2 ?_
    conv => whnf
    refine ⟨(y, z), rfl, ?_⟩
    rintro _ _ ⟨rfl, rfl⟩
    conv => whnf
    refine br2 (fun h6 => ?_) (fun h6 => ?_)
    · replace h6 : (!eqX y z) = true := h6
      rw [Bool.not_eq_true', eqX_no] at h6
      conv => whnf
      refine ⟨⟨rfl, ?_⟩⟩
      show _ = [[D.lf (.bool (eqX l m))]]
      have : l ≠ m := by rintro rfl; rw [hy] at hz; cases hz; exact h6 rfl
      rw [eqX_no.2 this]
    · replace h6 : (!eqX y z) = false := h6
      rw [Bool.not_eq_false', eqX_iff] at h6
      conv => whnf
      refine ⟨l.length - (i + 1), [(0, 0), (16, 16)], [(0, .sl 0 none), (1, .sl 16 none), (5, .lf (.int .i64 ((i + 1 : Nat) : Int)))], [(0, some (.row .lent 4 encP l)), (16, some (.row .lent 4 encP m))], by omega, ⟨rfl, ⟨rfl, rfl, ?_, trivial⟩, ⟨rfl, rfl, trivial⟩⟩, i + 1, by omega, fun j hj => ?_, rfl, rfl, rfl⟩
      · show V.lf (.int .i64 (IntKind.i64.wrap ((i : Int) + 1))) = _
        replace h4 : l.length ≤ 9223372036854775807 := h4
        rw [w64 (by omega) (by omega)]; rfl
      · rcases Nat.lt_or_ge j i with h7 | h7
        · exact g2 j h7
        · obtain rfl : j = i := by omega
          rw [hy, hz, h6]
  · have hi : i = l.length := by have := of_decide_eq_false h5; omega
    conv => whnf
    refine ⟨⟨rfl, ?_⟩⟩
    show _ = [[D.lf (.bool (eqX l m))]]
    have : l = m := by
      apply List.ext_getElem?
      intro j
      rcases Nat.lt_or_ge j l.length with h | h
      · exact g2 j (by omega)
      · rw [List.getElem?_eq_none h, List.getElem?_eq_none (by omega)]
    rw [eqX_iff.2 this]
theorem eqPrepS_ok : FnOk Tryz.prog 18 (cEqS 4 encP) := fnOk_of fun x => fnX_at tab_ok (SOk.cons eqPrep_ok SOk.nil) mixed (fn := Tryz.f18) (code := body Tryz.f18) ⟨Tryz.func18, rfl, by kernel_rfl, by kernel_rfl, by kernel_rfl, by kernel_rfl⟩ (ev_eqPrepS x)
def recAt (k : Int) : RecX := ⟨k, mkT (k + 1), mkT (k + 2), mkT (k + 3), mkT (k + 4)⟩
def markR (k : Int) (n : Nat) : List RecX := (List.range n).map fun i : Nat => recAt (k + 5 * (i : Int))
theorem markR_len (k : Int) (n : Nat) : (markR k n).length = n := by simp [markR]
theorem markR_get {k : Int} {n i : Nat} (h : i < n) : (markR k n)[i]? = some (recAt (k + 5 * (i : Int))) := by simp [markR, h]
theorem ev_markRecS : ∀ x, evFnX tab [(39, (pureC MkX [(.rd, false)] [false] (fun x => [[.lf (.int .i64 x.n)]]) (fun x => [[.lf (.string (mkT x.n))]])))] (cMarkS 5 RecX.ds markR 5) Tryz.f42 (body Tryz.f42) x := by
  rintro ⟨⟨l, k, h1, h2⟩, hl⟩
  replace hl : l.length ≤ 1048576 := hl
  conv => whnf
  refine ⟨fun m s h => ∃ (i : Nat) (l' : List RecX), i ≤ l.length ∧ l'.length = l.length ∧ (∀ j, j < i → l'[j]? = some (recAt (k + 5 * (j : Int)))) ∧ m = l.length - i ∧ s = [(0, .sl 0 none), (1, .lf (.int .i64 (k + 5 * (i : Int)))), (5, .lf (.int .i64 i)), (1000000, .sl 0 none)] ∧ h = [(0, some (.row .own 5 RecX.ds l'))],
    l.length, [(0, 0)], [(0, .sl 0 none), (1, .lf (.int .i64 k)), (5, .lf (.int .i64 0)), (1000000, .sl 0 none)], [(0, some (.row .own 5 RecX.ds l))], ⟨rfl, ⟨rfl, rfl, rfl, rfl, trivial⟩, rfl, trivial⟩, ⟨0, l, by omega, rfl, fun j h => by omega, by omega, by simp, rfl⟩, ?_⟩
  rintro m _ _ ⟨i, l', g1, g2, g3, rfl, rfl, rfl⟩
  conv => whnf
  intro _
  conv => whnf
  refine br2 (fun h5 => ?_) (fun h5 => ?_)
  · have hi : i < l.length := by have := of_decide_eq_true h5; omega
    have hil : i < l'.length := by omega
    obtain ⟨y, hy⟩ := getL (l := l') (j := i) hil
    have hk0 : 0 ≤ k + 5 * (i : Int) ∧ k + 5 * (i : Int) ≤ 1125899920000000 := by omega
    have hk1 : k + 5 * ((i + 1 : Nat) : Int) = k + 5 * (i : Int) + 5 := by omega
    have g3' : ∀ z, z = recAt (k + 5 * (i : Int)) → ∀ j, j < i + 1 → (l'.set i z)[j]? = some (recAt (k + 5 * (j : Int))) := by
      rintro z rfl j hj
      rw [List.getElem?_set]
      by_cases e : i = j
      · subst e; rw [if_pos rfl, if_pos (by omega)]
      · rw [if_neg e]; exact g3 j (by omega)
    generalize hq : k + 5 * (i : Int) = q at *
    obtain ⟨hq0, hq1⟩ := hk0
    let q1 : Int := IntKind.i64.wrap (q + 1)
    have w1 : q1 = q + 1 := w64 (by omega) (by omega)
    let q2 : Int := IntKind.i64.wrap (q1 + 1)
    have w2 : q2 = q + 2 := by show IntKind.i64.wrap (q1 + 1) = q + 2; rw [w1, w64 (by omega) (by omega)]; omega
    let q3 : Int := IntKind.i64.wrap (q2 + 1)
    have w3 : q3 = q + 3 := by show IntKind.i64.wrap (q2 + 1) = q + 3; rw [w2, w64 (by omega) (by omega)]; omega
    let q4 : Int := IntKind.i64.wrap (q3 + 1)
    have w4 : q4 = q + 4 := by show IntKind.i64.wrap (q3 + 1) = q + 4; rw [w3, w64 (by omega) (by omega)]; omega
    have w5 : IntKind.i64.wrap (q4 + 1) = q + 5 := by rw [w4, w64 (by omega) (by omega)]; omega
    conv => whnf
    refine ⟨Int.natCast_nonneg _, (show (i : Int) < (l'.length : Int) by omega), ?_⟩
    conv => whnf
    refine ex2 y (nthI hy) ?_
    conv => whnf
    refine ⟨⟨q, y.key, y.val, y.lo, y.hi⟩, rfl, ?_⟩
    conv => whnf
    refine ⟨⟨q1, by omega, by omega⟩, rfl, ?_⟩
    rintro _ _ ⟨rfl, rfl⟩
    conv => whnf
    refine ⟨Int.natCast_nonneg _, Int.ofNat_lt.2 (by simp only [List.length_set]; exact hil), ?_⟩
    conv => whnf
    refine ex2 _ (nth_setI (by first | exact hil | (simp only [List.length_set]; exact hil))) ?_
    conv => whnf
    refine ⟨⟨q, mkT q1, y.val, y.lo, y.hi⟩, rfl, ?_⟩
    conv => whnf
    refine ⟨⟨q2, by omega, by omega⟩, rfl, ?_⟩
    rintro _ _ ⟨rfl, rfl⟩
    conv => whnf
    refine ⟨Int.natCast_nonneg _, Int.ofNat_lt.2 (by simp only [List.length_set]; exact hil), ?_⟩
    conv => whnf
    refine ex2 _ (nth_setI (by first | exact hil | (simp only [List.length_set]; exact hil))) ?_
    conv => whnf
    refine ⟨⟨q, mkT q1, mkT q2, y.lo, y.hi⟩, rfl, ?_⟩
    conv => whnf
    refine ⟨⟨q3, by omega, by omega⟩, rfl, ?_⟩
    rintro _ _ ⟨rfl, rfl⟩
    conv => whnf
    refine ⟨Int.natCast_nonneg _, Int.ofNat_lt.2 (by simp only [List.length_set]; exact hil), ?_⟩
    conv => whnf
    refine ex2 _ (nth_setI (by first | exact hil | (simp only [List.length_set]; exact hil))) ?_
    conv => whnf
    refine ⟨⟨q, mkT q1, mkT q2, mkT q3, y.hi⟩, rfl, ?_⟩
    conv => whnf
    refine ⟨⟨q4, by omega, by omega⟩, rfl, ?_⟩
    rintro _ _ ⟨rfl, rfl⟩
    conv => whnf
    refine ⟨Int.natCast_nonneg _, Int.ofNat_lt.2 (by simp only [List.length_set]; exact hil), ?_⟩
    conv => whnf
    refine ex2 _ (nth_setI (by first | exact hil | (simp only [List.length_set]; exact hil))) ?_
    conv => whnf
    refine ⟨⟨q, mkT q1, mkT q2, mkT q3, mkT q4⟩, rfl, ?_⟩
    conv => whnf
    refine ⟨l.length - (i + 1), [(0, 0)], [(0, .sl 0 none), (1, .lf (.int .i64 (k + 5 * ((i + 1 : Nat) : Int)))), (5, .lf (.int .i64 ((i + 1 : Nat) : Int))), (1000000, .sl 0 none)], [(0, some (.row .own 5 RecX.ds (l'.set i (recAt q))))], by omega, ⟨rfl, ⟨rfl, ?_, ?_, rfl, trivial⟩, ?_, trivial⟩, i + 1, _, by omega, by simp; omega, g3' _ rfl, rfl, rfl, rfl⟩
    · show V.lf (.int .i64 (IntKind.i64.wrap (q4 + 1))) = _
      rw [w5, hk1]
    · show V.lf (.int .i64 (IntKind.i64.wrap ((i : Int) + 1))) = _
      rw [w64 (by omega) (by omega)]; rfl
    · show some (Ob.row .own 5 RecX.ds (((((l'.set i _).set i _).set i _).set i _).set i (⟨q, mkT q1, mkT q2, mkT q3, mkT q4⟩ : RecX))) = _
      rw [w4, w3, w2, w1, List.set_set, List.set_set, List.set_set, List.set_set]; rfl
  · have hi : i = l.length := by have := of_decide_eq_false h5; omega
    subst hi
    have e1 : l' = markR k l.length := eq_mark g2 (markR_len _ _) fun j hj => by rw [g3 j hj, markR_get hj]
    conv => whnf
    refine ⟨⟨?_, rfl⟩⟩
    show [[D.row 5 RecX.ds l']] = _
    rw [e1]
theorem markRecS_ok : FnOk Tryz.prog 42 (cMarkS 5 RecX.ds markR 5) := fnOk_of fun x => fnX_at tab_ok (SOk.cons markText_ok SOk.nil) mixed (fn := Tryz.f42) (code := body Tryz.f42) ⟨Tryz.func42, rfl, by kernel_rfl, by kernel_rfl, by kernel_rfl, by kernel_rfl⟩ (ev_markRecS x)
theorem ev_heldRecS : ∀ x, evFnX tab [(39, (pureC MkX [(.rd, false)] [false] (fun x => [[.lf (.int .i64 x.n)]]) (fun x => [[.lf (.string (mkT x.n))]])))] (cHeldS 5 RecX.ds markR 5) Tryz.f43 (body Tryz.f43) x := by
  rintro ⟨⟨n, k, h1, h2⟩, hn⟩
  replace hn : n ≤ 1048576 := hn
  conv => whnf
  refine ⟨fun m s h => ∃ (i : Nat), i ≤ n ∧ m = n - i ∧ s = [(0, .sl 0 none), (1, .lf (.int .i64 (k + 5 * (i : Int)))), (5, .lf (.int .i64 i))] ∧ h = [(0, some (.row .lent 5 RecX.ds (markR k n)))],
    n, [(0, 0)], [(0, .sl 0 none), (1, .lf (.int .i64 k)), (5, .lf (.int .i64 0))], [(0, some (.row .lent 5 RecX.ds (markR k n)))], ⟨rfl, ⟨rfl, rfl, rfl, trivial⟩, rfl, trivial⟩, ⟨0, by omega, by omega, by simp, rfl⟩, ?_⟩
  rintro m _ _ ⟨i, g1, rfl, rfl, rfl⟩
  have hL : (markR k n).length = n := markR_len k n
  conv => whnf
  intro _
  conv => whnf
  refine br2 (fun h5 => ?_) (fun h5 => ?_)
  · have hi : i < n := by have := of_decide_eq_true h5; omega
    have hy := nthI (markR_get (k := k) hi)
    have hlt : (i : Int) < ((markR k n).length : Int) := by omega
    have hk0 : 0 ≤ k + 5 * (i : Int) ∧ k + 5 * (i : Int) ≤ 1125899920000000 := by omega
    have hk1 : k + 5 * ((i + 1 : Nat) : Int) = k + 5 * (i : Int) + 5 := by omega
    generalize hq : k + 5 * (i : Int) = q at *
    obtain ⟨hq0, hq1⟩ := hk0
    let q1 : Int := IntKind.i64.wrap (q + 1)
    have w1 : q1 = q + 1 := w64 (by omega) (by omega)
    let q2 : Int := IntKind.i64.wrap (q1 + 1)
    have w2 : q2 = q + 2 := by show IntKind.i64.wrap (q1 + 1) = q + 2; rw [w1, w64 (by omega) (by omega)]; omega
    let q3 : Int := IntKind.i64.wrap (q2 + 1)
    have w3 : q3 = q + 3 := by show IntKind.i64.wrap (q2 + 1) = q + 3; rw [w2, w64 (by omega) (by omega)]; omega
    let q4 : Int := IntKind.i64.wrap (q3 + 1)
    have w4 : q4 = q + 4 := by show IntKind.i64.wrap (q3 + 1) = q + 4; rw [w3, w64 (by omega) (by omega)]; omega
    have w5 : IntKind.i64.wrap (q4 + 1) = q + 5 := by rw [w4, w64 (by omega) (by omega)]; omega
    conv => whnf
    refine ⟨Int.natCast_nonneg _, hlt, ?_⟩
    conv => whnf
    refine ex2 _ hy ?_
    conv => whnf
    repeat (refine rc_i (by (conv => whnf); first | rfl | exact ⟨Int.natCast_nonneg _, hlt, rfl⟩ | exact ex2 _ hy rfl) ?_; conv => whnf)
    refine br2 (fun h => ?_) (fun _ => ?_)
    · exfalso
      replace h : (q != q) = true := h
      simp at h
    conv => whnf
    refine ⟨Int.natCast_nonneg _, hlt, ?_⟩
    conv => whnf
    refine ex2 _ hy ?_
    conv => whnf
    repeat (refine rc_i (by (conv => whnf); first | rfl | exact ⟨Int.natCast_nonneg _, hlt, rfl⟩ | exact ex2 _ hy rfl) ?_; conv => whnf)
    refine ⟨⟨q1, by omega, by omega⟩, rfl, ?_⟩
    rintro _ _ ⟨rfl, rfl⟩
    conv => whnf
    repeat (refine rc_i (by (conv => whnf); first | rfl | exact ⟨Int.natCast_nonneg _, hlt, rfl⟩ | exact ex2 _ hy rfl) ?_; conv => whnf)
    refine br2 (fun h => ?_) (fun _ => ?_)
    · exfalso
      replace h : (!strEq (mkT (q + 1)) (mkT q1)) = true := h
      rw [w1, strEq_refl] at h; cases h
    conv => whnf
    refine ⟨Int.natCast_nonneg _, hlt, ?_⟩
    conv => whnf
    refine ex2 _ hy ?_
    conv => whnf
    repeat (refine rc_i (by (conv => whnf); first | rfl | exact ⟨Int.natCast_nonneg _, hlt, rfl⟩ | exact ex2 _ hy rfl) ?_; conv => whnf)
    refine ⟨⟨q2, by omega, by omega⟩, rfl, ?_⟩
    rintro _ _ ⟨rfl, rfl⟩
    conv => whnf
    repeat (refine rc_i (by (conv => whnf); first | rfl | exact ⟨Int.natCast_nonneg _, hlt, rfl⟩ | exact ex2 _ hy rfl) ?_; conv => whnf)
    refine br2 (fun h => ?_) (fun _ => ?_)
    · exfalso
      replace h : (!strEq (mkT (q + 2)) (mkT q2)) = true := h
      rw [w2, strEq_refl] at h; cases h
    conv => whnf
    refine ⟨Int.natCast_nonneg _, hlt, ?_⟩
    conv => whnf
    refine ex2 _ hy ?_
    conv => whnf
    repeat (refine rc_i (by (conv => whnf); first | rfl | exact ⟨Int.natCast_nonneg _, hlt, rfl⟩ | exact ex2 _ hy rfl) ?_; conv => whnf)
    refine ⟨⟨q3, by omega, by omega⟩, rfl, ?_⟩
    rintro _ _ ⟨rfl, rfl⟩
    conv => whnf
    repeat (refine rc_i (by (conv => whnf); first | rfl | exact ⟨Int.natCast_nonneg _, hlt, rfl⟩ | exact ex2 _ hy rfl) ?_; conv => whnf)
    refine br2 (fun h => ?_) (fun _ => ?_)
    · exfalso
      replace h : (!strEq (mkT (q + 3)) (mkT q3)) = true := h
      rw [w3, strEq_refl] at h; cases h
    conv => whnf
    refine ⟨Int.natCast_nonneg _, hlt, ?_⟩
    conv => whnf
    refine ex2 _ hy ?_
    conv => whnf
    repeat (refine rc_i (by (conv => whnf); first | rfl | exact ⟨Int.natCast_nonneg _, hlt, rfl⟩ | exact ex2 _ hy rfl) ?_; conv => whnf)
    refine ⟨⟨q4, by omega, by omega⟩, rfl, ?_⟩
    rintro _ _ ⟨rfl, rfl⟩
    conv => whnf
    repeat (refine rc_i (by (conv => whnf); first | rfl | exact ⟨Int.natCast_nonneg _, hlt, rfl⟩ | exact ex2 _ hy rfl) ?_; conv => whnf)
    refine br2 (fun h => ?_) (fun _ => ?_)
    · exfalso
      replace h : (!strEq (mkT (q + 4)) (mkT q4)) = true := h
      rw [w4, strEq_refl] at h; cases h
    conv => whnf
    refine ⟨n - (i + 1), [(0, 0)], [(0, .sl 0 none), (1, .lf (.int .i64 (k + 5 * ((i + 1 : Nat) : Int)))), (5, .lf (.int .i64 ((i + 1 : Nat) : Int)))], [(0, some (.row .lent 5 RecX.ds (markR k n)))], by omega, ⟨rfl, ⟨rfl, ?_, ?_, trivial⟩, rfl, trivial⟩, i + 1, by omega, rfl, rfl, rfl⟩
    · show V.lf (.int .i64 (IntKind.i64.wrap (q4 + 1))) = _
      rw [w5, hk1]
    · show V.lf (.int .i64 (IntKind.i64.wrap ((i : Int) + 1))) = _
      rw [w64 (by omega) (by omega)]; rfl
  · have hi : i = n := by have := of_decide_eq_false h5; omega
    subst hi
    conv => whnf
    exact ⟨⟨rfl, rfl⟩⟩
theorem heldRecS_ok : FnOk Tryz.prog 43 (cHeldS 5 RecX.ds markR 5) := fnOk_of fun x => fnX_at tab_ok (SOk.cons markText_ok SOk.nil) mixed (fn := Tryz.f43) (code := body Tryz.f43) ⟨Tryz.func43, rfl, by kernel_rfl, by kernel_rfl, by kernel_rfl, by kernel_rfl⟩ (ev_heldRecS x)
def prpW (p : PrpX) : Int := 3 + 5 * (p.2.length : Int)
def prpB (p : PrpX) : Prop := p.2.length ≤ 1048576
def markPrp (k : Int) (p : PrpX) : PrpX := (⟨k, k + 1, k + 2⟩, markR (k + 3) p.2.length)
def prpsW : List PrpX → Int
  | [] => 0
  | n :: l => prpW n + prpsW l
def markPs (k : Int) : List PrpX → List PrpX
  | [] => []
  | n :: l => markPrp k n :: markPs (k + prpW n) l
theorem prpW_pos (n : PrpX) : 0 ≤ prpW n := by unfold prpW; omega
theorem prpW_le {n : PrpX} (h : prpB n) : prpW n ≤ 5242883 := by have : n.2.length ≤ 1048576 := h; unfold prpW; omega
theorem prpsW_pos (l : List PrpX) : 0 ≤ prpsW l := by
  induction l with
  | nil => exact Int.le_refl 0
  | cons n l ih => have := prpW_pos n; simp only [prpsW]; omega
theorem prpsW_le {l : List PrpX} (h : ∀ n ∈ l, prpB n) : prpsW l ≤ 5242883 * l.length := by
  induction l with
  | nil => simp [prpsW]
  | cons n l ih =>
    have a := prpW_le (h n (by simp))
    have b := ih fun m hm => h m (by simp [hm])
    simp only [prpsW, List.length_cons]; omega
theorem prpsW_take {l : List PrpX} {i : Nat} {n : PrpX} (h : l[i]? = some n) : prpsW (l.take (i + 1)) = prpsW (l.take i) + prpW n := by
  induction l generalizing i with
  | nil => simp at h
  | cons m l ih =>
    cases i with
    | zero => obtain rfl : m = n := by simpa using h
              simp [prpsW]
    | succ i => have := ih (i := i) (by simpa using h); simp only [List.take_succ_cons, prpsW] at *; omega
theorem prpsW_take_le (l : List PrpX) (i : Nat) : prpsW (l.take i) ≤ prpsW l := by
  induction l generalizing i with
  | nil => simp
  | cons m l ih =>
    cases i with
    | zero => exact prpsW_pos _
    | succ i => have := ih i; simp only [List.take_succ_cons, prpsW] at *; omega
theorem markPs_len (k : Int) (l : List PrpX) : (markPs k l).length = l.length := by
  induction l generalizing k with
  | nil => rfl
  | cons n l ih => simp [markPs, ih]
theorem markPs_get {k : Int} {l : List PrpX} {i : Nat} {n : PrpX} (h : l[i]? = some n) : (markPs k l)[i]? = some (markPrp (k + prpsW (l.take i)) n) := by
  induction l generalizing i k with
  | nil => simp at h
  | cons m l ih =>
    cases i with
    | zero => obtain rfl : m = n := by simpa using h
              simp [markPs, prpsW]
    | succ i => rw [markPs, List.getElem?_cons_succ, ih (by simpa using h), List.take_succ_cons, prpsW, Int.add_assoc]
theorem markPs_set {k : Int} {l l' : List PrpX} {i : Nat} {n : PrpX} (hn : l[i]? = some n) (hl : l'.length = l.length) (h1 : ∀ j, j < i → l'[j]? = (markPs k l)[j]?) :
    ∀ j, j < i + 1 → (l'.set i (markPrp (k + prpsW (l.take i)) n))[j]? = (markPs k l)[j]? := by
  intro j hj
  have hi : i < l.length := by rcases Nat.lt_or_ge i l.length with h | h; exact h; rw [List.getElem?_eq_none h] at hn; cases hn
  rw [List.getElem?_set]
  by_cases e : i = j
  · subst e; rw [if_pos rfl, if_pos (by omega), markPs_get hn]
  · rw [if_neg e]; exact h1 j (by omega)
theorem markPs_all {k : Int} {l l' : List PrpX} (hl : l'.length = l.length) (h : ∀ j, j < l.length → l'[j]? = (markPs k l)[j]?) : l' = markPs k l := eq_mark hl (markPs_len k l) h
structure MarkPX where
  l : List PrpX
  k : Int
  h1 : 0 ≤ k
  h2 : k + prpsW l ≤ 1125899906842624
  hl : l.length ≤ 1048576
  hb : ∀ n ∈ l, prpB n
def cMarkP (d : Bool) : Con := { X := MarkPX, params := [(.mut, d), (.rd, false)], res := [false], resOwn := true, ins := fun x => [[.row 4 encP x.l], [.lf (.int .i64 x.k)]], post := fun x outs r => outs = [[.row 4 encP (markPs x.k x.l)]] ∧ r = [[.lf (.int .i64 (x.k + prpsW x.l))]] }
def cHeldP (d : Bool) : Con := { X := MarkPX, params := [(.rd, d), (.rd, false)], res := [false], resOwn := true, ins := fun x => [[.row 4 encP (markPs x.k x.l)], [.lf (.int .i64 x.k)]], post := fun x outs r => outs = [] ∧ r = [[.lf (.int .i64 (x.k + prpsW x.l))]] }
theorem ev_markPrepS : ∀ x, evFnX tab [(1000010, cGh), (1000003, cGh), (42, (cMarkS 5 RecX.ds markR 5))] (cMarkP false) Tryz.f19 (body Tryz.f19) x := by
  rintro ⟨l, k, h1, h2, hl, hb⟩
  replace hl : l.length ≤ 1048576 := hl
  replace hb : ∀ n ∈ l, prpB n := hb
  conv => whnf
  refine ⟨fun m s h => ∃ (i : Nat) (l' : List PrpX), i ≤ l.length ∧ l'.length = l.length ∧ (∀ j, j < i → l'[j]? = (markPs k l)[j]?) ∧ (∀ j, i ≤ j → l'[j]? = l[j]?) ∧ m = l.length - i ∧ s = [(0, .sl 0 none), (1, .lf (.int .i64 (k + prpsW (l.take (i))))), (5, .lf (.int .i64 (i : Int))), (1000000, .sl 0 none)] ∧ h = [(0, some (.row .own 4 encP l'))],
    l.length, [(0, 0)], [(0, .sl 0 none), (1, .lf (.int .i64 k)), (5, .lf (.int .i64 0)), (1000000, .sl 0 none)], [(0, some (.row .own 4 encP l))], ⟨rfl, ⟨rfl, rfl, rfl, rfl, trivial⟩, rfl, trivial⟩, ⟨0, l, by omega, rfl, fun j h => by omega, fun j _ => rfl, by omega, by simp [prpsW], rfl⟩, ?_⟩
  rintro m _ _ ⟨i, l', g1, g2, g3, g4, rfl, rfl, rfl⟩
  conv => whnf
  intro _
  conv => whnf
  refine br2 (fun h5 => ?_) (fun h5 => ?_)
  · have hi : i < l.length := by have := of_decide_eq_true h5; omega
    obtain ⟨y, hy⟩ := getL hi
    have hy' : l'[i]? = some y := (g4 i (Nat.le_refl _)).trans hy
    have hil : i < l'.length := by omega
    obtain ⟨⟨a, b, c⟩, rs⟩ := y
    have b1 : rs.length ≤ 1048576 := hb _ (List.mem_of_getElem? hy)
    have t1 := prpsW_take hy
    have t2 := prpsW_take_le l (i + 1)
    have t3 := prpsW_pos (l.take i)
    have s1 := markPs_set (k := k) hy g2 g3
    replace t1 : prpsW (l.take (i + 1)) = prpsW (l.take i) + (3 + 5 * (rs.length : Int)) := t1
    have s2 : ∀ z, z = markPrp (k + prpsW (l.take i)) (⟨a, b, c⟩, rs) → ∀ j, j < i + 1 → (l'.set i z)[j]? = (markPs k l)[j]? := by rintro z rfl; exact s1
    have hk0 : 0 ≤ k + prpsW (l.take i) ∧ k + prpsW (l.take i) + (3 + 5 * (rs.length : Int)) ≤ 1125899906842624 := by omega
    have hk1 : k + prpsW (l.take (i + 1)) = k + prpsW (l.take i) + (3 + 5 * (rs.length : Int)) := by omega
    clear t1 t2 t3 s1
    generalize hq : k + prpsW (l.take i) = q at *
    obtain ⟨hq0, hq1⟩ := hk0
    let q1 : Int := IntKind.i64.wrap (q + 1)
    have w1 : q1 = q + 1 := w64 (by omega) (by omega)
    let q2 : Int := IntKind.i64.wrap (q1 + 1)
    have w2 : q2 = q + 2 := by show IntKind.i64.wrap (q1 + 1) = q + 2; rw [w1, w64 (by omega) (by omega)]; omega
    let q3 : Int := IntKind.i64.wrap (q2 + 1)
    have w3 : q3 = q + 3 := by show IntKind.i64.wrap (q2 + 1) = q + 3; rw [w2, w64 (by omega) (by omega)]; omega
    conv => whnf
    refine ⟨Int.natCast_nonneg _, ltI hy', ?_⟩
    conv => whnf
    refine ex2 _ (nthI hy') ?_
    conv => whnf
    refine ⟨((⟨q, b, c⟩ : TxX), rs), rfl, ?_⟩
    conv => whnf
    refine ⟨Int.natCast_nonneg _, Int.ofNat_lt.2 (by simp only [List.length_set]; exact hil), ?_⟩
    conv => whnf
    refine ex2 _ (nth_setI (by first | exact hil | (simp only [List.length_set]; exact hil))) ?_
    conv => whnf
    refine ⟨((⟨q, q1, c⟩ : TxX), rs), rfl, ?_⟩
    conv => whnf
    refine ⟨Int.natCast_nonneg _, Int.ofNat_lt.2 (by simp only [List.length_set]; exact hil), ?_⟩
    conv => whnf
    refine ex2 _ (nth_setI (by first | exact hil | (simp only [List.length_set]; exact hil))) ?_
    conv => whnf
    refine ⟨((⟨q, q1, q2⟩ : TxX), rs), rfl, ?_⟩
    conv => whnf
    refine ⟨[.foc 0 i 1000], ?_⟩
    conv => whnf
    refine ex2 _ (by rw [nth_eq]; exact List.getElem?_set_self (by first | exact hil | (simp only [List.length_set]; exact hil))) ?_
    conv => whnf
    refine ⟨Int.natCast_nonneg _, Int.ofNat_lt.2 (by simp only [List.length_set]; exact hil), ?_⟩
    conv => whnf
    refine ⟨Int.toNat_natCast i, ?_⟩
    conv => whnf
    refine ⟨⟨⟨rs, q3, by omega, by omega⟩, b1⟩, rfl, ?_⟩
    rintro _ _ ⟨rfl, rfl⟩
    conv => whnf
    refine ⟨[.unf 0], ?_⟩
    conv => whnf
    refine ⟨markPrp q (⟨a, b, c⟩, rs), ?_, ?_⟩
    · show [D.lf (.int .i64 q), D.lf (.int .i64 (q + 1)), D.lf (.int .i64 (q + 2)), D.row 5 RecX.ds (markR (q + 3) rs.length)] = [D.lf (.int .i64 q), D.lf (.int .i64 q1), D.lf (.int .i64 q2), D.row 5 RecX.ds (markR q3 rs.length)]
      rw [w1, w2, w3]
    conv => whnf
    refine ⟨l.length - (i + 1), [(0, 0)], [(0, .sl 0 none), (1, .lf (.int .i64 (k + prpsW (l.take (i + 1))))), (5, .lf (.int .i64 ((i + 1 : Nat) : Int))), (1000000, .sl 0 none)], [(0, some (.row .own 4 encP (l'.set i (markPrp q (⟨a, b, c⟩, rs)))))], by omega, ⟨rfl, ⟨rfl, ?_, incI hi (by omega), rfl, trivial⟩, ?_, trivial⟩, i + 1, _, by omega, by simpa using g2, s2 _ rfl, fun j hj => ?_, rfl, rfl, rfl⟩
    · show V.lf (.int .i64 (q3 + 5 * (rs.length : Int))) = V.lf (.int .i64 (k + prpsW (l.take (i + 1))))
      rw [hk1, w3, show q + 3 + 5 * (rs.length : Int) = q + (3 + 5 * (rs.length : Int)) by omega]
    · show some (Ob.row .own 4 encP ((((l'.set i _).set i _).set i _).set i (markPrp q (⟨a, b, c⟩, rs)))) = _
      rw [List.set_set, List.set_set, List.set_set]
    · rw [List.getElem?_set, if_neg (by omega)]; exact g4 j (by omega)
  · have hi : i = l.length := by have := of_decide_eq_false h5; omega
    subst hi
    conv => whnf
    refine ⟨⟨?_, ?_⟩⟩
    · show [[D.row 4 encP l']] = [[D.row 4 encP (markPs k l)]]
      rw [markPs_all g2 g3]
    · show [[D.lf (.int .i64 (k + prpsW (l.take l.length)))]] = [[D.lf (.int .i64 (k + prpsW l))]]
      rw [List.take_length]
theorem markPrepS_ok : FnOk Tryz.prog 19 (cMarkP false) := fnOk_of fun x => fnX_at tab_ok (SOk.cons gh_ok (SOk.cons gh_ok (SOk.cons markRecS_ok SOk.nil))) mixed (fn := Tryz.f19) (code := body Tryz.f19) ⟨Tryz.func19, rfl, by kernel_rfl, by kernel_rfl, by kernel_rfl, by kernel_rfl⟩ (ev_markPrepS x)
theorem ev_heldPrepS : ∀ x, evFnX tab [(43, (cHeldS 5 RecX.ds markR 5))] (cHeldP false) Tryz.f20 (body Tryz.f20) x := by
  rintro ⟨l, k, h1, h2, hl, hb⟩
  replace hl : l.length ≤ 1048576 := hl
  replace hb : ∀ n ∈ l, prpB n := hb
  conv => whnf
  let H0 : Hp := [(0, some (.row .lent 4 encP (markPs k l)))]
  refine ⟨fun m s h => ∃ i : Nat, i ≤ l.length ∧ m = l.length - i ∧ s = [(0, .sl 0 none), (1, .lf (.int .i64 (k + prpsW (l.take (i))))), (5, .lf (.int .i64 (i : Int)))] ∧ h = H0,
    l.length, [(0, 0)], [(0, .sl 0 none), (1, .lf (.int .i64 k)), (5, .lf (.int .i64 0))], H0, ⟨rfl, ⟨rfl, rfl, rfl, trivial⟩, rfl, trivial⟩, ⟨0, by omega, by omega, by simp [prpsW], rfl⟩, ?_⟩
  rintro m _ _ ⟨i, g1, rfl, rfl, rfl⟩
  conv => whnf
  intro _
  conv => whnf
  have hln := markPs_len k l
  refine br2 (fun h5 => ?_) (fun h5 => ?_)
  · replace h5 : decide ((i : Int) < ((markPs k l).length : Int)) = true := h5
    have hi : i < l.length := by have := of_decide_eq_true h5; omega
    obtain ⟨y, hy⟩ := getL hi
    have hy' := markPs_get (k := k) hy
    obtain ⟨⟨a, b, c⟩, rs⟩ := y
    have b1 : rs.length ≤ 1048576 := hb _ (List.mem_of_getElem? hy)
    have t1 := prpsW_take hy
    have t2 := prpsW_take_le l (i + 1)
    have t3 := prpsW_pos (l.take i)
    replace t1 : prpsW (l.take (i + 1)) = prpsW (l.take i) + (3 + 5 * (rs.length : Int)) := t1
    have hk0 : 0 ≤ k + prpsW (l.take i) ∧ k + prpsW (l.take i) + (3 + 5 * (rs.length : Int)) ≤ 1125899906842624 := by omega
    have hk1 : k + prpsW (l.take (i + 1)) = k + prpsW (l.take i) + (3 + 5 * (rs.length : Int)) := by omega
    clear t1 t2 t3
    generalize hq : k + prpsW (l.take i) = q at *
    obtain ⟨hq0, hq1⟩ := hk0
    let q1 : Int := IntKind.i64.wrap (q + 1)
    have w1 : q1 = q + 1 := w64 (by omega) (by omega)
    let q2 : Int := IntKind.i64.wrap (q1 + 1)
    have w2 : q2 = q + 2 := by show IntKind.i64.wrap (q1 + 1) = q + 2; rw [w1, w64 (by omega) (by omega)]; omega
    let q3 : Int := IntKind.i64.wrap (q2 + 1)
    have w3 : q3 = q + 3 := by show IntKind.i64.wrap (q2 + 1) = q + 3; rw [w2, w64 (by omega) (by omega)]; omega
    conv => whnf
    refine ⟨Int.natCast_nonneg _, ltI hy', ?_⟩
    conv => whnf
    refine ex2 _ (nthI hy') ?_
    conv => whnf
    refine br2 (fun h6 => ?_) (fun h6 => ?_)
    · exfalso
      replace h6 : (q != q) = true := h6
      simp at h6
    conv => whnf
    refine ⟨Int.natCast_nonneg _, ltI hy', ?_⟩
    conv => whnf
    refine ex2 _ (nthI hy') ?_
    conv => whnf
    refine br2 (fun h6 => ?_) (fun h6 => ?_)
    · exfalso
      replace h6 : ((q + 1) != q1) = true := h6
      rw [w1] at h6; simp at h6
    conv => whnf
    refine ⟨Int.natCast_nonneg _, ltI hy', ?_⟩
    conv => whnf
    refine ex2 _ (nthI hy') ?_
    conv => whnf
    refine br2 (fun h6 => ?_) (fun h6 => ?_)
    · exfalso
      replace h6 : ((q + 2) != q2) = true := h6
      rw [w2] at h6; simp at h6
    conv => whnf
    refine ⟨Int.natCast_nonneg _, ltI hy', ?_⟩
    conv => whnf
    refine ex2 _ (nthI hy') ?_
    conv => whnf
    refine ⟨⟨⟨rs.length, q3, by omega, by omega⟩, b1⟩, ?_, ?_⟩
    · show [[D.row 5 RecX.ds (markR q3 rs.length)], [D.lf (.int .i64 q3)]] = [[D.row 5 RecX.ds (markR (q + 3) rs.length)], [D.lf (.int .i64 q3)]]
      rw [w3]
    rintro _ _ ⟨rfl, rfl⟩
    conv => whnf
    refine br2 (fun h7 => ?_) (fun h7 => ?_)
    · exfalso
      have : q3 + 5 * (rs.length : Int) < 0 := of_decide_eq_true h7
      omega
    conv => whnf
    refine ⟨l.length - (i + 1), [(0, 0)], [(0, .sl 0 none), (1, .lf (.int .i64 (k + prpsW (l.take (i + 1))))), (5, .lf (.int .i64 ((i + 1 : Nat) : Int)))], H0, by omega, ⟨rfl, ⟨rfl, ?_, incI hi (by omega), trivial⟩, rfl, trivial⟩, i + 1, by omega, rfl, rfl, rfl⟩
    show V.lf (.int .i64 (q3 + 5 * (rs.length : Int))) = V.lf (.int .i64 (k + prpsW (l.take (i + 1))))
    rw [hk1, w3, show q + 3 + 5 * (rs.length : Int) = q + (3 + 5 * (rs.length : Int)) by omega]
  · replace h5 : decide ((i : Int) < ((markPs k l).length : Int)) = false := h5
    have hi : i = l.length := by have := of_decide_eq_false h5; omega
    subst hi
    conv => whnf
    refine ⟨⟨rfl, ?_⟩⟩
    show [[D.lf (.int .i64 (k + prpsW (l.take l.length)))]] = [[D.lf (.int .i64 (k + prpsW l))]]
    rw [List.take_length]
theorem heldPrepS_ok : FnOk Tryz.prog 20 (cHeldP false) := fnOk_of fun x => fnX_at tab_ok (SOk.cons heldRecS_ok SOk.nil) mixed (fn := Tryz.f20) (code := body Tryz.f20) ⟨Tryz.func20, rfl, by kernel_rfl, by kernel_rfl, by kernel_rfl, by kernel_rfl⟩ (ev_heldPrepS x)
end Go.Vm
namespace Go.Vm
open Go.Proofs
set_option maxRecDepth 100000
set_option linter.unusedVariables false
set_option linter.unusedSimpArgs false

end Go.Vm
namespace Go.Vm
open Go.Proofs
set_option maxRecDepth 100000
set_option linter.unusedVariables false
set_option linter.unusedSimpArgs false
set_option maxHeartbeats 4000000

theorem sub_len {α : Type} : ∀ (xs ys : List α), xs.Pairwise (· ≠ ·) → (∀ x ∈ xs, x ∈ ys) → xs.length ≤ ys.length
  | [], _, _, _ => Nat.zero_le _
  | x :: xs, ys, hp, hs => by
    obtain ⟨a, b, rfl⟩ := List.append_of_mem (hs x (by simp))
    have h3 := sub_len xs (a ++ b) (List.pairwise_cons.1 hp).2 fun y hy => by
      have h1 := hs y (by simp [hy])
      have h2 := (List.pairwise_cons.1 hp).1 y hy
      simp only [List.mem_append, List.mem_cons] at h1 ⊢
      rcases h1 with h | h | h
      · exact .inl h
      · exact absurd h.symm h2
      · exact .inr h
    simp only [List.length_append, List.length_cons] at h3 ⊢
    omega
theorem fm_len {α β : Type} {f : α → List β} {b : Nat} (h : ∀ n, (f n).length ≤ b) : ∀ l : List α, (l.flatMap f).length ≤ b * l.length
  | [] => by simp
  | x :: l => by
    have := fm_len h l
    have := h x
    simp only [List.flatMap_cons, List.length_append, List.length_cons, Nat.mul_add]
    omega
theorem strLt_irr (a : ByteArray) : strLt a a = false := by
  cases e : strLt a a with
  | false => rfl
  | true => exact absurd e (by simp [strLt_irrefl])
theorem PrepsT.small {N : List NodeX} {P : List PrpX} (h : PrepsT N P) : P.length ≤ 200 ∧ ∀ p ∈ P, p.2.length ≤ 3200 := by
  obtain ⟨l, ha, hP⟩ := h
  have hl : (undL l).length ≤ 200 := Nat.le_trans (undL_len l) ha.okk.len
  have hm : ((undL l).map UnX.u).length ≤ 200 := by rw [List.length_map]; exact hl
  constructor
  · have := sub_len (P.map (·.1)) (((undL l).map UnX.u).map (·.1)) ?_ ?_
    · rw [List.length_map, List.length_map] at this; omega
    · rw [List.pairwise_map]
      refine hP.srt.imp fun {a b} h e => ?_
      rw [e] at h
      rw [strLt_irr] at h; cases h
    · intro x hx
      obtain ⟨p, hp, rfl⟩ := List.mem_map.1 hx
      obtain ⟨u, hu, e⟩ := (hP.mem p.1).1 ⟨p, hp, rfl⟩
      exact List.mem_map.2 ⟨u, hu, e⟩
  · intro p hp
    rw [hP.recs p hp]
    unfold recsOf
    have := fm_len (f := fun n => (((undL l).map UnX.u).filter fun u => decide (u.1 = p.1 ∧ u.2.1 = n)).map fun u => u.2.2) (b := 200) (fun n => by
      rw [List.length_map]
      exact Nat.le_trans (List.length_filter_le _ _) hm) (List.range 16)
    rw [List.length_range] at this
    exact this
structure PrepsZ where
  N : List NodeX
  hN : nodesB0 N
theorem ev_lawPreps : ∀ x, evFnX tab [(6, (cSz treeDs nodesB0 nodesB)), (8, (pureC NodesY [(.rd, true)] [true] (fun x => [treeDs x.l]) (fun x => [treeDs x.l]))), (16, cPreps), (17, cPreps), (18, (cEqS 4 encP)), (12, (cEq treeDs)), (13, (cMarkN true)), (19, (cMarkP false)), (20, (cHeldP false))] (pureC PrepsZ [(.rd, true)] [false] (fun x => [treeDs x.N]) (fun _ => [[.lf (.bool true)]])) Tryz.f4 (body Tryz.f4) x := by
  rintro ⟨N, hN⟩
  conv => whnf
  refine ⟨⟨N, 1048576, by omega, by omega, hN⟩, rfl, ?_⟩
  rintro _ _ ⟨rfl, q, rfl, k1, k2, k3⟩
  conv => whnf
  replace k2 : q ≤ 1048576 := k2
  refine br2 (fun h3 => ?_) (fun h3 => ?_)
  · conv => whnf
    exact ⟨⟨rfl, rfl⟩⟩
  have h3' := of_decide_eq_false h3
  obtain ⟨hl, hb⟩ := k3 (by omega)
  replace hl : N.length ≤ 1048576 := hl
  replace hb : ∀ n ∈ N, nodeB n := hb
  have hp : ∀ n ∈ N, n.ps.length ≤ 1048576 := fun n hn => (hb n hn).1
  conv => whnf
  refine ⟨⟨N, hl, hb⟩, rfl, ?_⟩
  rintro _ _ ⟨rfl, rfl⟩
  conv => whnf
  refine ⟨⟨N, N.length, Nat.le_refl _, hl, hp⟩, rfl, ?_⟩
  rintro _ _ ⟨rfl, P, rfl, r1⟩
  conv => whnf
  refine ⟨⟨N, hl, hb⟩, rfl, ?_⟩
  rintro _ _ ⟨rfl, rfl⟩
  conv => whnf
  refine ⟨⟨N, N.length, Nat.le_refl _, hl, hp⟩, rfl, ?_⟩
  rintro _ _ ⟨rfl, P', rfl, r2⟩
  conv => whnf
  obtain rfl := PrepsT.same r1 r2
  clear r2
  obtain ⟨s1, s2⟩ := r1.small
  have hPl : P.length ≤ 1048576 := by omega
  have hPb : ∀ p ∈ P, prpB p := fun p hp => by have := s2 p hp; show p.2.length ≤ 1048576; omega
  have hW0 := prpsW_pos P
  have hW1 := prpsW_le hPb
  have hN0 : (!eqX N N) = false := by rw [eqX_refl]; rfl
  have hP0 : (!eqX P P) = false := by rw [eqX_refl]; rfl
  have hW := nodesW_le hb
  have hW2 := nodesW_pos N
  refine ⟨(P, P), rfl, ?_⟩
  rintro _ _ ⟨rfl, rfl⟩
  conv => whnf
  refine br2 (fun h4 => ?_) (fun h4 => ?_)
  · exact absurd (hP0.symm.trans h4) (by simp)
  conv => whnf
  refine ⟨⟨N, hl, hb⟩, rfl, ?_⟩
  rintro _ _ ⟨rfl, rfl⟩
  conv => whnf
  repeat ((first | refine rc_i rfl ?_ | refine rc_i (fun _ => rfl) ?_); conv => whnf)
  refine ⟨(N, N), rfl, ?_⟩
  rintro _ _ ⟨rfl, rfl⟩
  conv => whnf
  repeat ((first | refine rc_i rfl ?_ | refine rc_i (fun _ => rfl) ?_); conv => whnf)
  refine br2 (fun h6 => ?_) (fun h6 => ?_)
  · exact absurd (hN0.symm.trans h6) (by simp)
  conv => whnf
  refine ⟨⟨N, 1, by omega, by omega, hl, hb⟩, rfl, ?_⟩
  rintro _ _ ⟨rfl, rfl⟩
  conv => whnf
  refine br2 (fun h7 => ?_) (fun h7 => ?_)
  · exfalso
    have : 1 + nodesW N < 0 := of_decide_eq_true h7
    omega
  conv => whnf
  refine ⟨(P, P), rfl, ?_⟩
  rintro _ _ ⟨rfl, rfl⟩
  conv => whnf
  refine br2 (fun h4 => ?_) (fun h4 => ?_)
  · exact absurd (hP0.symm.trans h4) (by simp)
  conv => whnf
  refine ⟨⟨P, 1, by omega, by omega, hPl, hPb⟩, rfl, ?_⟩
  rintro _ _ ⟨rfl, rfl⟩
  conv => whnf
  refine ⟨⟨P, 1, by omega, by omega, hPl, hPb⟩, rfl, ?_⟩
  rintro _ _ ⟨rfl, rfl⟩
  conv => whnf
  refine br2 (fun h6 => ?_) (fun h6 => ?_)
  · exfalso
    have : 1 + prpsW P < 0 := of_decide_eq_true h6
    omega
  conv => whnf
  refine br2 (fun h7 => ?_) (fun h7 => ?_)
  · exfalso
    replace h7 : ((1 + prpsW P) != (1 + prpsW P)) = true := h7
    simp at h7
  conv => whnf
  refine ⟨⟨N, hl, hb⟩, rfl, ?_⟩
  rintro _ _ ⟨rfl, rfl⟩
  conv => whnf
  refine ⟨⟨N, N.length, Nat.le_refl _, hl, hp⟩, rfl, ?_⟩
  rintro _ _ ⟨rfl, P', rfl, r2⟩
  conv => whnf
  obtain rfl := PrepsT.same r1 r2
  clear r2
  refine ⟨(P, P), rfl, ?_⟩
  rintro _ _ ⟨rfl, rfl⟩
  conv => whnf
  refine br2 (fun h4 => ?_) (fun h4 => ?_)
  · exact absurd (hP0.symm.trans h4) (by simp)
  conv => whnf
  refine ⟨⟨P, 1, by omega, by omega, hPl, hPb⟩, rfl, ?_⟩
  rintro _ _ ⟨rfl, rfl⟩
  conv => whnf
  refine br2 (fun h6 => ?_) (fun h6 => ?_)
  · exfalso
    have : 1 + prpsW P < 0 := of_decide_eq_true h6
    omega
  conv => whnf
  refine br2 (fun h7 => ?_) (fun h7 => ?_)
  · exfalso
    replace h7 : ((1 + prpsW P) != (1 + prpsW P)) = true := h7
    simp at h7
  conv => whnf
  exact ⟨⟨rfl, rfl⟩⟩
theorem lawPreps_ok : FnOk Tryz.prog 4 (pureC PrepsZ [(.rd, true)] [false] (fun x => [treeDs x.N]) (fun _ => [[.lf (.bool true)]])) := fnOk_of fun x => fnX_at tab_ok (SOk.cons szTree_ok (SOk.cons toTree_ok (SOk.cons sPreps_ok (SOk.cons iPreps_ok (SOk.cons eqPrepS_ok (SOk.cons eqTree_ok (SOk.cons markTree_ok (SOk.cons markPrepS_ok (SOk.cons heldPrepS_ok SOk.nil))))))))) mixed (fn := Tryz.f4) (code := body Tryz.f4) ⟨Tryz.func4, rfl, by kernel_rfl, by kernel_rfl, by kernel_rfl, by kernel_rfl⟩ (ev_lawPreps x)
end Go.Vm
