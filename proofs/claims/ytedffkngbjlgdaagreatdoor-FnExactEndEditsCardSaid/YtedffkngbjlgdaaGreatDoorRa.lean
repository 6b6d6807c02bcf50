/- From contracts to rows: a law that only reads, and what lies behind its arguments. -/
import Derived.Test.YtedffkngbjlgdaaGreatDoorKa
import Derived.WalkKit
import Derived.ProofKit
import Derived.OpenShut
import Derived.ShutString
import Derived.ChangeArms
import Derived.ChangeOld
import Derived.DataReads
import Derived.Below
import Derived.Carry
import Derived.SizedLaws
namespace Go.Vm
open Go.RowKit Go.Proofs Go.ChangeShapes Go.WideShapes Go.ChangeAt
set_option linter.unusedVariables false
set_option linter.unusedSimpArgs false

theorem Own.lf_eq {w : World} {Kp F : Nat → Prop} {v u : Value} (h : Own w Kp F v (.lf u)) : v = u := by cases h; rfl

/-- A law's call. -/
theorem law_calls {P : Program} {f : Nat} {c : Con} (h : FnOk P f c) (hcall : ∀ (args : Array Value) (w : World), (callFunc f args).run P w = .ok (.enter f args) w) (x : c.X) (hpost : ∀ outs res, c.post x outs res → res = [[.lf (.bool true)]]) (hres : c.res = [false])
    {w : World} {args : List Value} {R : Nat → Prop} {Fs : List (Nat → Prop)} (hA : ArgsR w R R c.params (c.ins x) args Fs) (hF : ∀ y, ¬ AnyF Fs y) (hD : DisF Fs) (hR : ∀ y, R y → y < w.heap.size) :
    Calls P f args.toArray w fun e w' => e = .returned (.bool true) ∧ Below w.heap.size w w' := by
  have key : ∀ v w', (∃ outs res N rs Hs Os, Out c x w args R Fs v w' outs res N rs Hs Os) → v = .bool true ∧ Below w.heap.size w w' := by
    rintro v w' ⟨outs, res, N, rs, Hs, Os, o⟩
    have hr := hpost outs res o.post
    have h1 := o.res
    rw [hr, hres] at h1
    refine ⟨?_, o.shape.os, o.shape.tape, o.shape.output, o.shape.size, fun b hb => o.frame b hb (hF b)⟩
    have h3 := o.ret
    cases rs with
    | nil => cases Hs <;> exact h1.elim
    | cons u rs =>
      cases Hs with
      | nil => exact h1.elim
      | cons F Hs =>
        obtain ⟨⟨cs, hc, hl, G, g1, _⟩, h4⟩ := h1
        cases rs with
        | cons _ _ => cases Hs <;> exact h4.elim
        | nil =>
          obtain ⟨rfl, _⟩ := hc
          have h2 := g1 0 (by simp)
          have h3 : v = u := h3
          rw [h3]
          simp only [List.getD_cons_zero] at h2
          unfold ResD at h2
          split at h2
          · exact h2.lf_eq
          · exact h2.1.lf_inv.1
  rcases h x w args R R Fs hA hD (fun y hy => absurd hy (hF y)) (fun _ h => h) hR with ⟨fn, h1, h2, h3, h4⟩ | ⟨v, w', h1, _⟩
  · exact h4.mono fun e w' ⟨v, e1, ho⟩ => by
      obtain ⟨rfl, hb⟩ := key v w' ho
      exact ⟨e1, hb⟩
  · rw [hcall] at h1; cases h1

/-- A value without addresses, as an argument. -/
theorem argLf {w : World} {R : Nat → Prop} {v : Value} (h : isSc v = true) : ∃ cs, CellsOf false v cs ∧ Part (ArgD .rd w R R) cs [.lf v] (fun _ => False) :=
  ⟨[v], ⟨rfl, isSc_one h⟩, rfl, fun _ _ => False, fun f hf => by
    obtain rfl : f = 0 := by simpa using hf
    exact ⟨.lf h, fun _ h => h⟩, fun _ _ _ _ _ _ h => h.elim, fun x => ⟨fun h => h.elim, fun ⟨_, _, h⟩ => h⟩⟩
end Go.Vm
namespace Go.Vm
open Go.RowKit Go.Proofs Go.ChangeShapes Go.WideShapes Go.ChangeAt
set_option linter.unusedVariables false
set_option linter.unusedSimpArgs false

/-- Cells that hold deep data, to be read. -/
def Is (w : World) (cs : List Value) (ds : List D) (sz : Nat) : Prop :=
  cs.length = sz ∧ ds.length = sz ∧ ∀ i, i < sz → Ro w (fun x => x < w.heap.size) (cs.getD i undef) (ds.getD i .dead)
/-- The cells are right ones of these types. -/
def CellsOk (P : Program) (w : World) (base : Nat) (c : Bool) (ts : List TypeId) (cs : List Value) : Prop :=
  c = true → ∀ (i : Nat) t v, ts[i]? = some t → cs[i]? = some v → Cell.okWide P w .any base t v
/-- Whatever the reader makes out at type t is deep data within bounds B. -/
def OpensT (P : Program) (w : World) (base : Nat) (c : Bool) {α : Type} (t : TypeId) (ts : List TypeId) (sz : Nat) (enc : α → List D) (B : α → Prop) : Prop :=
  ts.length = sz ∧ ∀ (H : Type) (e : TypeId × Value → H) (fuel : Nat) (cs : List Value) (x : DataW H × List MemPlace), DataW.trod e P w 0 (fun _ => true) true fuel t cs = some x → CellsOk P w base c ts cs → ∃ a, Is w cs (enc a) sz ∧ B a
def OpensF (P : Program) (w : World) (base : Nat) (c : Bool) {α : Type} (fs : List Field) (o : Nat) (ts : List TypeId) (sz : Nat) (enc : α → List D) (B : α → Prop) : Prop :=
  ts.length = sz ∧ ∀ (H : Type) (e : TypeId × Value → H) (n : Nat) (cs : List Value), (∀ f ∈ fs, ∃ x, DataW.trod e P w 0 (fun _ => true) true n f.type ((cs.drop f.offset).take (P.cellsOf f.type)) = some x) →
    cs.length = o + sz → CellsOk P w base c ts (cs.drop o) → ∃ a, Is w (cs.drop o) (enc a) sz ∧ B a

section
variable {P : Program} {w : World} {base : Nat} {c : Bool} {t : TypeId} {v : Value}
theorem is_one {v : Value} {d : D} (h : Ro w (fun x => x < w.heap.size) v d) : Is w [v] [d] 1 := ⟨rfl, rfl, fun i hi => by
  have h0 : i = 0 := by omega
  subst h0
  exact h⟩
theorem Is.app {cs cs' : List Value} {ds ds' : List D} {n m : Nat} (h : Is w cs ds n) (h' : Is w cs' ds' m) : Is w (cs ++ cs') (ds ++ ds') (n + m) := by
  obtain ⟨h1, h2, h3⟩ := h
  obtain ⟨g1, g2, g3⟩ := h'
  refine ⟨by simp [h1, g1], by simp [h2, g2], fun i hi => ?_⟩
  by_cases hn : i < n
  · have e1 : (cs ++ cs').getD i undef = cs.getD i undef := by simp [List.getD, List.getElem?_append_left (h1 ▸ hn : i < cs.length)]
    have e2 : (ds ++ ds').getD i .dead = ds.getD i .dead := by simp [List.getD, List.getElem?_append_left (h2 ▸ hn : i < ds.length)]
    rw [e1, e2]; exact h3 i hn
  · have e1 : (cs ++ cs').getD i undef = cs'.getD (i - n) undef := by simp [List.getD, List.getElem?_append_right (by omega : cs.length ≤ i), h1]
    have e2 : (ds ++ ds').getD i .dead = ds'.getD (i - n) .dead := by simp [List.getD, List.getElem?_append_right (by omega : ds.length ≤ i), h2]
    rw [e1, e2]; exact g3 (i - n) (by omega)
def intB (x : Int) : Prop := -9223372036854775808 ≤ x ∧ x ≤ 9223372036854775807
def strB (x : ByteArray) : Prop := x.size ≤ 9223372036854775807
theorem opens_int (ht : P.underlying t = some (.int .i64)) : OpensT P w base c t [t] 1 (fun x : Int => [.lf (.int .i64 x)]) intB := by
  refine ⟨rfl, fun H e fuel cs x h _ => ?_⟩
  obtain ⟨n, rfl, _, hw⟩ := DataW.trod_int ht h
  have e1 : IntKind.min .i64 = -9223372036854775808 := rfl
  have e2 : IntKind.max .i64 = 9223372036854775807 := rfl
  simp only [Lit.wf, Bool.and_eq_true, e1, e2] at hw
  exact ⟨n, is_one (.lf rfl), of_decide_eq_true hw.1, of_decide_eq_true hw.2⟩
theorem opens_u8 (ht : P.underlying t = some (.int .u8)) : OpensT P w base c t [t] 1 encB (fun _ => True) := by
  refine ⟨rfl, fun H e fuel cs x h _ => ?_⟩
  obtain ⟨n, rfl, _, hw⟩ := DataW.trod_int ht h
  have e1 : IntKind.min .u8 = 0 := rfl
  have e2 : IntKind.max .u8 = 255 := rfl
  simp only [Lit.wf, Bool.and_eq_true, e1, e2] at hw
  have h1 : 0 ≤ n := of_decide_eq_true hw.1
  have h2 : n ≤ 255 := of_decide_eq_true hw.2
  refine ⟨UInt8.ofNat n.toNat, ?_, trivial⟩
  have e3 : encB (UInt8.ofNat n.toNat) = [.lf (.int .u8 n)] := by
    unfold encB
    have : (UInt8.ofNat n.toNat).toNat = n.toNat := by simp [UInt8.toNat_ofNat]; omega
    rw [this, Int.toNat_of_nonneg h1]
  rw [e3]
  exact is_one (.lf rfl)
theorem opens_string (ht : P.underlying t = some .string) : OpensT P w base c t [t] 1 (fun x : ByteArray => [.lf (.string x)]) strB := by
  refine ⟨rfl, fun H e fuel cs x h _ => ?_⟩
  obtain ⟨s, rfl, _, hw⟩ := DataW.trod_string ht h
  exact ⟨s, is_one (.lf rfl), hw⟩
theorem opens_bool (ht : P.underlying t = some .bool) : OpensT P w base c t [t] 1 (fun x : Bool => [.lf (.bool x)]) (fun _ => True) := by
  refine ⟨rfl, fun H e fuel cs x h _ => ?_⟩
  obtain ⟨b, rfl, _⟩ := DataW.trod_bool ht h
  exact ⟨b, is_one (.lf rfl), trivial⟩
theorem cells_get {a : Addr} {n : Nat} {cs : List Value} (h : w.cells? 0 a n = some cs) : cs.length = n ∧ ∀ (i : Nat) (u : Value), cs[i]? = some u → w.cell? (a.add i) = some u := by
  unfold World.cells? at h
  rw [if_pos (Nat.zero_le _)] at h
  have hl : cs.length = n := by simpa using mapM_some_length h
  refine ⟨hl, fun i u hu => ?_⟩
  have hi : i < n := by
    have := (List.getElem?_eq_some_iff.mp hu).1
    omega
  have := mapM_some_get h i i (by simp [hi])
  rw [this, hu]
theorem pick {α : Type} {β : Type} (R : α → β → Prop) : ∀ (ys : List β), (∀ y ∈ ys, ∃ a, R a y) → ∃ xs : List α, xs.length = ys.length ∧ ∀ (i : Nat) a y, xs[i]? = some a → ys[i]? = some y → R a y
  | [], _ => ⟨[], rfl, fun i a y h => by simp at h⟩
  | y :: ys, h => by
    obtain ⟨a, ha⟩ := h y (by simp)
    obtain ⟨xs, hl, hx⟩ := pick R ys (fun z hz => h z (by simp [hz]))
    refine ⟨a :: xs, by simp [hl], fun i b z hb hz => ?_⟩
    cases i with
    | zero =>
      simp only [List.getElem?_cons_zero, Option.some.injEq] at hb hz
      subst hb hz
      exact ha
    | succ i => exact hx i b z (by simpa using hb) (by simpa using hz)
theorem okWide_has {e : TypeId} {a : Addr} {n m : Nat} (ht : P.underlying t = some (.slice e)) (h : Cell.okWide P w .any base t (.slice (some a) n m)) : a.spot = none ∧ a.block < w.heap.size := by
  unfold Cell.okWide at h
  rw [ht] at h
  have h2 : Cell.ok P w .any base t (.slice (some a) n m) := h
  unfold Cell.ok at h2
  rw [ht] at h2
  obtain ⟨_, _, _, h5, row, cells, h6, _⟩ := h2
  refine ⟨h5, ?_⟩
  unfold World.shape? at h6
  rcases Nat.lt_or_ge a.block w.heap.size with h7 | h7
  · exact h7
  · rw [Array.getElem?_eq_none h7] at h6; cases h6
theorem opens_slice {α : Type} {e : TypeId} {ts : List TypeId} {sz : Nat} {enc : α → List D} {B : α → Prop} (ht : P.underlying t = some (.slice e)) (hc : P.cellsOf e = sz) (hz : ∀ a, (enc a).length = sz) (he : OpensT P w base false e ts sz enc B) :
    OpensT P w base true t [t] 1 (fun l : List α => [.row sz enc l]) (fun l => l.length ≤ 9223372036854775807 ∧ ∀ y ∈ l, B y) := by
  refine ⟨rfl, fun H en fuel cs x h hok => ?_⟩
  rcases DataW.trod_slice ht h with ⟨rfl, _⟩ | ⟨a, len, cap, elems, rest, n, _, rfl, _, _, hl, hm, hlen, hel, hsp, _⟩
  · exact ⟨[], is_one (.nil hz), by simp, by simp⟩
  · obtain ⟨hs, hb⟩ := okWide_has ht (hok rfl 0 t _ rfl rfl)
    obtain ⟨b, o, sp⟩ := a
    obtain rfl : sp = none := hs
    replace hb : b < w.heap.size := hb
    have add : ∀ i, (⟨b, o, none⟩ : Addr).add i = ⟨b, o + i, none⟩ := by
      intro i
      unfold Addr.add
      split
      · rename_i h0; subst h0; rfl
      · rfl
    have g0 : ∀ i, i < cap → ∃ c : List Value, w.cells? 0 ⟨b, o + i * sz, none⟩ sz = some c ∧ (i < len → ∃ y, DataW.trod en P w 0 (fun _ => true) true n e c = some y) := by
      intro i hi
      by_cases hil : i < len
      · have h1 := hel i hil
        rw [List.getElem?_eq_getElem (by omega), hc, add] at h1
        obtain ⟨c, hc1, hc2⟩ := Option.bind_eq_some_iff.mp h1
        exact ⟨c, hc1, fun _ => ⟨_, hc2⟩⟩
      · obtain ⟨r1, r2⟩ := hsp rfl
        have h1 := r2 (i - len) (by omega)
        rw [List.getElem?_eq_getElem (by omega), hc, add, show len + (i - len) = i by omega] at h1
        obtain ⟨c, hc1, hc2⟩ := Option.bind_eq_some_iff.mp h1
        exact ⟨c, hc1, fun h => absurd h hil⟩
    have g : ∀ i ∈ List.range len, ∃ y : α, ∃ c : List Value, Is w c (enc y) sz ∧ B y ∧ ∀ j u, c[j]? = some u → w.cell? ⟨b, o + (i * sz + j), none⟩ = some u := by
      intro i hi
      have hi' : i < len := by simpa using hi
      obtain ⟨c, hc1, hc2⟩ := g0 i (by omega)
      obtain ⟨_, hc2⟩ := hc2 hi'
      obtain ⟨y, hy, hB⟩ := he.2 H en n c _ hc2 (fun h => by cases h)
      refine ⟨y, c, hy, hB, fun j u hu => ?_⟩
      have := (cells_get hc1).2 j u hu
      have e1 : (⟨b, o + i * sz, none⟩ : Addr).add j = ⟨b, o + (i * sz + j), none⟩ := by
        unfold Addr.add
        split
        · rename_i h0; subst h0; rfl
        · simp [Nat.add_assoc]
      rwa [e1] at this
    obtain ⟨xs, hxl, hx⟩ := pick _ (List.range len) g
    have hxl' : xs.length = len := by simpa using hxl
    have ml : cap ≤ 9223372036854775807 := hm
    have hzs : ∀ i, i < len → ∃ y c, xs[i]? = some y ∧ Is w c (enc y) sz ∧ B y ∧ ∀ j u, c[j]? = some u → w.cell? ⟨b, o + (i * sz + j), none⟩ = some u := by
      intro i hi
      obtain ⟨c, h1, h2, h3⟩ := hx i xs[i] i (List.getElem?_eq_getElem (by omega)) (List.getElem?_range hi)
      exact ⟨_, c, List.getElem?_eq_getElem (by omega), h1, h2, h3⟩
    refine ⟨xs, is_one (Ro.row (fun i f => (w.cell? ⟨b, o + (i * sz + f), none⟩).getD undef) hxl'.symm hb hb hl (by omega) ?_ hz ?_ ?_), by omega, fun y hy => ?_⟩
    · intro j hj
      have hsz : 0 < sz := by
        rcases Nat.eq_zero_or_pos sz with h0 | h0
        · subst h0; simp at hj
        · exact h0
      have hd : j / sz < cap := Nat.div_lt_of_lt_mul (by rw [Nat.mul_comm]; exact hj)
      obtain ⟨c, hc1, _⟩ := g0 (j / sz) hd
      obtain ⟨hcl, hcg⟩ := cells_get hc1
      have hm2 : j % sz < c.length := by rw [hcl]; exact Nat.mod_lt _ hsz
      have := hcg (j % sz) c[j % sz] (List.getElem?_eq_getElem hm2)
      have e1 : (⟨b, o + j / sz * sz, none⟩ : Addr).add (j % sz) = ⟨b, o + j, none⟩ := by
        have := Nat.div_add_mod j sz
        have e2 : o + j / sz * sz + j % sz = o + j := by rw [Nat.mul_comm] at this; omega
        unfold Addr.add
        split
        · rename_i h0; rw [h0, Nat.add_zero] at e2; rw [e2]
        · simp only [e2]
      rw [e1] at this
      exact ⟨_, this⟩
    · intro i f hi hf
      obtain ⟨y, c, _, h2, _, h4⟩ := hzs i hi
      have hfc : f < c.length := by rw [h2.1]; exact hf
      rw [h4 f c[f] (List.getElem?_eq_getElem hfc)]; rfl
    · intro i f hi hf
      obtain ⟨y, c, h1, h2, _, h4⟩ := hzs i hi
      have hfc : f < c.length := by rw [h2.1]; exact hf
      have e1 : (w.cell? ⟨b, o + (i * sz + f), none⟩).getD undef = c.getD f undef := by
        rw [h4 f c[f] (List.getElem?_eq_getElem hfc), List.getD, List.getElem?_eq_getElem hfc]
      have e2 : dat enc xs i f = (enc y).getD f .dead := by unfold dat; rw [h1]
      rw [e1, e2]
      exact h2.2.2 f hf
    · obtain ⟨i, hi, rfl⟩ := List.getElem_of_mem hy
      obtain ⟨_, _, h1, _, h3, _⟩ := hzs i (by omega)
      rw [List.getElem?_eq_getElem hi] at h1
      cases h1
      exact h3
theorem opens_slice_in {α : Type} {e : TypeId} {ts : List TypeId} {sz : Nat} {enc : α → List D} {B : α → Prop} (ht : P.underlying t = some (.slice e)) (hc : P.cellsOf e = sz) (hz : ∀ a, (enc a).length = sz) (he : OpensT P w base false e ts sz enc B) (hp : 0 < sz) :
    OpensT P w base c t [t] 1 (fun l : List α => [.row sz enc l]) (fun l => l.length ≤ 9223372036854775807 ∧ ∀ y ∈ l, B y) := by
  refine ⟨rfl, fun H en fuel cs x h hok => ?_⟩
  rcases DataW.trod_slice ht h with ⟨rfl, _⟩ | ⟨a, len, cap, elems, rest, n, _, rfl, _, _, hl, hm, hlen, hel, hsp, _⟩
  · exact ⟨[], is_one (.nil hz), by simp, by simp⟩
  · rcases Nat.eq_zero_or_pos cap with hcap0 | hcap0
    · subst hcap0
      obtain rfl : len = 0 := by omega
      exact ⟨[], is_one (.nil hz), by simp, by simp⟩
    have hcell : ∀ c : List Value, w.cells? 0 (a.add (0 * P.cellsOf e)) (P.cellsOf e) = some c → a.spot = none ∧ a.block < w.heap.size := by
      intro c hc1
      rw [Nat.zero_mul, hc] at hc1
      obtain ⟨hcl, hcg⟩ := cells_get hc1
      have h2 := hcg 0 c[0] (List.getElem?_eq_getElem (by omega))
      have e0 : (a.add 0).add 0 = a := rfl
      rw [e0] at h2
      unfold World.cell? at h2
      split at h2
      · rename_i cs lo hi h3
        split at h2
        · cases h2
        · rename_i h4
          refine ⟨by cases hsp0 : a.spot with | none => rfl | some _ => rw [hsp0] at h4; exact absurd rfl h4, ?_⟩
          rcases Nat.lt_or_ge a.block w.heap.size with h7 | h7
          · exact h7
          · rw [Array.getElem?_eq_none h7] at h3; cases h3
      · cases h2
    obtain ⟨hs, hb⟩ : a.spot = none ∧ a.block < w.heap.size := by
      rcases Nat.eq_zero_or_pos len with hl0 | hl0
      · subst hl0
        obtain ⟨r1, r2⟩ := hsp rfl
        have h1 := r2 0 (by omega)
        rw [List.getElem?_eq_getElem (by omega)] at h1
        obtain ⟨c, hc1, _⟩ := Option.bind_eq_some_iff.mp h1
        exact hcell c (by simpa using hc1)
      · have h1 := hel 0 hl0
        rw [List.getElem?_eq_getElem (by omega)] at h1
        obtain ⟨c, hc1, _⟩ := Option.bind_eq_some_iff.mp h1
        exact hcell c hc1
    obtain ⟨b, o, sp⟩ := a
    obtain rfl : sp = none := hs
    replace hb : b < w.heap.size := hb
    have add : ∀ i, (⟨b, o, none⟩ : Addr).add i = ⟨b, o + i, none⟩ := by
      intro i
      unfold Addr.add
      split
      · rename_i h0; subst h0; rfl
      · rfl
    have g0 : ∀ i, i < cap → ∃ c : List Value, w.cells? 0 ⟨b, o + i * sz, none⟩ sz = some c ∧ (i < len → ∃ y, DataW.trod en P w 0 (fun _ => true) true n e c = some y) := by
      intro i hi
      by_cases hil : i < len
      · have h1 := hel i hil
        rw [List.getElem?_eq_getElem (by omega), hc, add] at h1
        obtain ⟨c, hc1, hc2⟩ := Option.bind_eq_some_iff.mp h1
        exact ⟨c, hc1, fun _ => ⟨_, hc2⟩⟩
      · obtain ⟨r1, r2⟩ := hsp rfl
        have h1 := r2 (i - len) (by omega)
        rw [List.getElem?_eq_getElem (by omega), hc, add, show len + (i - len) = i by omega] at h1
        obtain ⟨c, hc1, hc2⟩ := Option.bind_eq_some_iff.mp h1
        exact ⟨c, hc1, fun h => absurd h hil⟩
    have g : ∀ i ∈ List.range len, ∃ y : α, ∃ c : List Value, Is w c (enc y) sz ∧ B y ∧ ∀ j u, c[j]? = some u → w.cell? ⟨b, o + (i * sz + j), none⟩ = some u := by
      intro i hi
      have hi' : i < len := by simpa using hi
      obtain ⟨c, hc1, hc2⟩ := g0 i (by omega)
      obtain ⟨_, hc2⟩ := hc2 hi'
      obtain ⟨y, hy, hB⟩ := he.2 H en n c _ hc2 (fun h => by cases h)
      refine ⟨y, c, hy, hB, fun j u hu => ?_⟩
      have := (cells_get hc1).2 j u hu
      have e1 : (⟨b, o + i * sz, none⟩ : Addr).add j = ⟨b, o + (i * sz + j), none⟩ := by
        unfold Addr.add
        split
        · rename_i h0; subst h0; rfl
        · simp [Nat.add_assoc]
      rwa [e1] at this
    obtain ⟨xs, hxl, hx⟩ := pick _ (List.range len) g
    have hxl' : xs.length = len := by simpa using hxl
    have ml : cap ≤ 9223372036854775807 := hm
    have hzs : ∀ i, i < len → ∃ y c, xs[i]? = some y ∧ Is w c (enc y) sz ∧ B y ∧ ∀ j u, c[j]? = some u → w.cell? ⟨b, o + (i * sz + j), none⟩ = some u := by
      intro i hi
      obtain ⟨c, h1, h2, h3⟩ := hx i xs[i] i (List.getElem?_eq_getElem (by omega)) (List.getElem?_range hi)
      exact ⟨_, c, List.getElem?_eq_getElem (by omega), h1, h2, h3⟩
    refine ⟨xs, is_one (Ro.row (fun i f => (w.cell? ⟨b, o + (i * sz + f), none⟩).getD undef) hxl'.symm hb hb hl (by omega) ?_ hz ?_ ?_), by omega, fun y hy => ?_⟩
    · intro j hj
      have hsz : 0 < sz := by
        rcases Nat.eq_zero_or_pos sz with h0 | h0
        · subst h0; simp at hj
        · exact h0
      have hd : j / sz < cap := Nat.div_lt_of_lt_mul (by rw [Nat.mul_comm]; exact hj)
      obtain ⟨c, hc1, _⟩ := g0 (j / sz) hd
      obtain ⟨hcl, hcg⟩ := cells_get hc1
      have hm2 : j % sz < c.length := by rw [hcl]; exact Nat.mod_lt _ hsz
      have := hcg (j % sz) c[j % sz] (List.getElem?_eq_getElem hm2)
      have e1 : (⟨b, o + j / sz * sz, none⟩ : Addr).add (j % sz) = ⟨b, o + j, none⟩ := by
        have := Nat.div_add_mod j sz
        have e2 : o + j / sz * sz + j % sz = o + j := by rw [Nat.mul_comm] at this; omega
        unfold Addr.add
        split
        · rename_i h0; rw [h0, Nat.add_zero] at e2; rw [e2]
        · simp only [e2]
      rw [e1] at this
      exact ⟨_, this⟩
    · intro i f hi hf
      obtain ⟨y, c, _, h2, _, h4⟩ := hzs i hi
      have hfc : f < c.length := by rw [h2.1]; exact hf
      rw [h4 f c[f] (List.getElem?_eq_getElem hfc)]; rfl
    · intro i f hi hf
      obtain ⟨y, c, h1, h2, _, h4⟩ := hzs i hi
      have hfc : f < c.length := by rw [h2.1]; exact hf
      have e1 : (w.cell? ⟨b, o + (i * sz + f), none⟩).getD undef = c.getD f undef := by
        rw [h4 f c[f] (List.getElem?_eq_getElem hfc), List.getD, List.getElem?_eq_getElem hfc]
      have e2 : dat enc xs i f = (enc y).getD f .dead := by unfold dat; rw [h1]
      rw [e1, e2]
      exact h2.2.2 f hf
    · obtain ⟨i, hi, rfl⟩ := List.getElem_of_mem hy
      obtain ⟨_, _, h1, _, h3, _⟩ := hzs i (by omega)
      rw [List.getElem?_eq_getElem hi] at h1
      cases h1
      exact h3
theorem opensF_one {α : Type} {f : Field} {o sz : Nat} {ts : List TypeId} {enc : α → List D} {B : α → Prop} (ho : f.offset = o) (hc : P.cellsOf f.type = sz) (he : OpensT P w base c f.type ts sz enc B) : OpensF P w base c [f] o ts sz enc B := by
  refine ⟨he.1, fun H e n cs hf hl hok => ?_⟩
  obtain ⟨x, hx⟩ := hf f (by simp)
  have hs : (cs.drop o).length ≤ sz := by rw [List.length_drop]; omega
  rw [ho, hc, List.take_of_length_le hs] at hx
  exact he.2 H e n _ x hx hok
theorem opensF_cons {α β : Type} {f : Field} {fs : List Field} {o sz sz' : Nat} {ts ts' : List TypeId} {enc : α → List D} {enc' : β → List D} {B : α → Prop} {C : β → Prop} (ho : f.offset = o) (hc : P.cellsOf f.type = sz) (he : OpensT P w base c f.type ts sz enc B)
    (hr : OpensF P w base c fs (o + sz) ts' sz' enc' C) : OpensF P w base c (f :: fs) o (ts ++ ts') (sz + sz') (fun x : α × β => enc x.1 ++ enc' x.2) (fun x => B x.1 ∧ C x.2) := by
  refine ⟨by simp [he.1, hr.1], fun H e n cs hf hl hok => ?_⟩
  obtain ⟨x, hx⟩ := hf f (by simp)
  rw [ho, hc] at hx
  obtain ⟨a, ha, hb⟩ := he.2 H e n _ x hx (fun hc i t v h1 h2 => hok hc i t v (by rw [List.getElem?_append_left (List.getElem?_eq_some_iff.1 h1).1]; exact h1) (by
    have := (List.getElem?_eq_some_iff.1 h2).1
    rw [List.length_take] at this
    rw [List.getElem?_take_of_lt (by omega)] at h2; exact h2))
  obtain ⟨b, hb1, hb2⟩ := hr.2 H e n cs (fun g hg => hf g (by simp [hg])) (by omega) (fun hc i t v h1 h2 => hok hc (i + sz) t v (by rw [List.getElem?_append_right (by rw [he.1]; omega), he.1, Nat.add_sub_cancel]; exact h1) (by
    rw [List.getElem?_drop] at h2 ⊢
    rw [← h2]; congr 1; omega))
  refine ⟨(a, b), ?_, hb, hb2⟩
  have := ha.app hb1
  rwa [← List.drop_drop, List.take_append_drop] at this
theorem opens_struct {α : Type} {fs : Array Field} {ts : List TypeId} {sz : Nat} {enc : α → List D} {B : α → Prop} (ht : P.underlying t = some (.struct fs)) (hc : P.cellsOf t = sz) (hf : OpensF P w base c fs.toList 0 ts sz enc B) : OpensT P w base c t ts sz enc B := by
  refine ⟨hf.1, fun H e fuel cs x h hok => ?_⟩
  obtain ⟨xs, n, _, _, hl, hx, hg⟩ := DataW.trod_struct ht h
  have := hf.2 H e n cs (fun f hfm => by
    obtain ⟨i, hi, rfl⟩ := List.getElem_of_mem hfm
    have hi' : i < fs.size := by simpa using hi
    have := hg i fs.toList[i] (by simp [Array.getElem?_eq_getElem hi'])
    rw [List.getElem?_eq_getElem (by omega)] at this
    exact ⟨_, this⟩) (by omega) (by simpa using hok)
  simpa using this
theorem opens_map {α β : Type} {ts : List TypeId} {sz : Nat} {enc : α → List D} {enc' : β → List D} {B : α → Prop} {B' : β → Prop} (g : α → β) (h : OpensT P w base c t ts sz enc B) (h1 : ∀ a, enc' (g a) = enc a) (h2 : ∀ a, B a → B' (g a)) : OpensT P w base c t ts sz enc' B' := by
  refine ⟨h.1, fun H e fuel cs x hx hok => ?_⟩
  obtain ⟨a, ha, hb⟩ := h.2 H e fuel cs x hx hok
  exact ⟨g a, by rw [h1]; exact ha, h2 a hb⟩

/-- An argument that is a struct; that is one cell. -/
theorem arg_struct {α : Type} {fs : Array Field} {ts : List TypeId} {sz : Nat} {enc : α → List D} {B : α → Prop} (ht : P.underlying t = some (.struct fs)) (hts : P.cellTypes P.depth t = some ts) (hv : Value.okWide P w .any base t v)
    {H : Type} {e : TypeId × Value → H} {x : DataW H × List MemPlace} (hx : ∃ fuel, DataW.trod e P w 0 (fun _ => true) true fuel t v.cells.toList = some x) (h : OpensT P w base true t ts sz enc B) :
    ∃ a, B a ∧ ∃ cs, CellsOf true v cs ∧ Part (ArgD .rd w (fun x => x < w.heap.size) (fun x => x < w.heap.size)) cs (enc a) (fun _ => False) := by
  unfold Value.okWide at hv
  rw [ht] at hv
  obtain ⟨cs, rfl, hsz, ts', h1, ⟨n, h2⟩, h3⟩ := hv
  rw [hts] at h1
  cases h1
  obtain ⟨fuel, hx⟩ := hx
  have hx : DataW.trod e P w 0 (fun _ => true) true fuel t cs.toList = some x := hx
  obtain ⟨a, ha, hb⟩ := h.2 H e fuel _ x hx (fun _ i t v g1 g2 => by
    obtain ⟨u, g3, g4⟩ := h3 i v (by simpa using g2)
    rw [Nat.mod_eq_of_lt (List.getElem?_eq_some_iff.1 g1).1, g1] at g3
    cases g3
    exact g4)
  refine ⟨a, hb, cs.toList, ⟨by simp, fun v hv => ?_⟩, by rw [ha.1, ha.2.1], fun _ _ => False, fun f hf => ⟨ha.2.2 f (by rw [ha.2.1] at hf; exact hf), fun _ h => h⟩, fun _ _ _ _ _ _ h => h.elim, fun x => ⟨fun h => h.elim, fun ⟨_, _, h⟩ => h⟩⟩
  obtain ⟨i, hi, rfl⟩ := List.getElem_of_mem hv
  have := ha.2.2 i (by rw [← ha.1]; exact hi)
  rw [List.getD, List.getElem?_eq_getElem hi] at this
  exact this.one
theorem arg_cell {α : Type} {enc : α → List D} {B : α → Prop} (hv : Cell.okWide P w .any base t v) (hcells : v.cells.toList = [v])
    {H : Type} {e : TypeId × Value → H} {x : DataW H × List MemPlace} (hx : ∃ fuel, DataW.trod e P w 0 (fun _ => true) true fuel t v.cells.toList = some x) (h : OpensT P w base true t [t] 1 enc B) :
    ∃ a, B a ∧ ∃ cs, CellsOf false v cs ∧ Part (ArgD .rd w (fun x => x < w.heap.size) (fun x => x < w.heap.size)) cs (enc a) (fun _ => False) := by
  obtain ⟨fuel, hx⟩ := hx
  rw [hcells] at hx
  obtain ⟨a, ha, hb⟩ := h.2 H e fuel _ x hx (fun _ i t' v' g1 g2 => by
    cases i with
    | zero => cases g1; cases g2; exact hv
    | succ i => cases g1)
  have h0 := ha.2.2 0 (by omega)
  exact ⟨a, hb, [v], ⟨rfl, h0.one⟩, by rw [ha.2.1]; rfl, fun _ _ => False, fun f hf => ⟨ha.2.2 f (by rw [ha.2.1] at hf; exact hf), fun _ h => h⟩, fun _ _ _ _ _ _ h => h.elim, fun x => ⟨fun h => h.elim, fun ⟨_, _, h⟩ => h⟩⟩
theorem arg_slice {α : Type} {e0 : TypeId} {enc : α → List D} {B : α → Prop} (ht : P.underlying t = some (.slice e0)) (hv : Value.okWide P w .any base t v)
    {H : Type} {e : TypeId × Value → H} {x : DataW H × List MemPlace} (hx : ∃ fuel, DataW.trod e P w 0 (fun _ => true) true fuel t v.cells.toList = some x) (h : OpensT P w base true t [t] 1 enc B) :
    ∃ a, B a ∧ ∃ cs, CellsOf false v cs ∧ Part (ArgD .rd w (fun x => x < w.heap.size) (fun x => x < w.heap.size)) cs (enc a) (fun _ => False) := by
  have hv' : Cell.okWide P w .any base t v := by
    unfold Value.okWide at hv
    rw [ht] at hv
    exact hv
  refine arg_cell hv' ?_ hx h
  cases v with
  | agg cs =>
    exfalso
    unfold Cell.okWide at hv'
    rw [ht] at hv'
    have h2 : Cell.ok P w .any base t (.agg cs) := hv'
    unfold Cell.ok at h2
    rw [ht] at h2
    exact h2
  | _ => rfl
end
end Go.Vm
