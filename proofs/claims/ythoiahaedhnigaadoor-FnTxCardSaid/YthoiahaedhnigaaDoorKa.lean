/- Contracts: words. -/
import Derived.Test.YthoiahaedhnigaaDoorVmT
import Derived.Lib.Bytealg
import Derived.Laws.Externs
namespace Go.Vm
open Go.Proofs

def body (f : Func) : Code := match f.body with | some c => c | none => .skip
/-- A function whose results are told by its parameters and that changes nothing. -/
def pureC (X : Type) (params : List (Mode × Bool)) (res : List Bool) (ins : X → List (List D)) (f : X → List (List D)) : Con :=
  { X := X, params := params, res := res, resOwn := true, ins := ins, post := fun x outs r => outs = [] ∧ r = f x }
/-- One of whose results something is known. -/
def relC (X : Type) (params : List (Mode × Bool)) (res : List Bool) (ins : X → List (List D)) (R : X → List (List D) → Prop) : Con :=
  { X := X, params := params, res := res, resOwn := true, ins := ins, post := fun x outs r => outs = [] ∧ R x r }

theorem SOk.nil {P : Program} : SOk P [] := fun p hp => by simp at hp
theorem SOk.cons {P : Program} {f : Nat} {c : Con} {S : Cons} (h : FnOk P f c) (hs : SOk P S) : SOk P ((f, c) :: S) := fun p hp => by
  rcases List.mem_cons.1 hp with rfl | hp
  · exact h
  · exact hs p hp

/-- A mark: at this region moves are told that the program does not see. -/
def cGh : Con := { X := Empty, params := [], res := [], resOwn := true, ins := fun _ => [], post := fun _ _ _ => True }
theorem gh_ok {P : Program} {n : Nat} : FnOk P n cGh := fun x => nomatch x
theorem nthI {β : Type} {l : List β} {j : Nat} {y : β} (h : l[j]? = some y) : nth l ((j : Nat) : Int).toNat = some y := by rw [nth_eq, Int.toNat_natCast]; exact h
theorem getL {β : Type} {l : List β} {j : Nat} (h : j < l.length) : ∃ y, l[j]? = some y := ⟨_, List.getElem?_eq_getElem h⟩

/-- Equality as a bool. -/
noncomputable def eqX {α : Type} (a b : α) : Bool := haveI := Classical.propDecidable (a = b); decide (a = b)
theorem eqX_iff {α : Type} {a b : α} : eqX a b = true ↔ a = b := by unfold eqX; simp
theorem eqX_no {α : Type} {a b : α} : eqX a b = false ↔ a ≠ b := by unfold eqX; simp
theorem eqX_refl {α : Type} (a : α) : eqX a a = true := eqX_iff.2 rfl
theorem b_iff {a b : Bool} : a = b ↔ (a = true ↔ b = true) := by cases a <;> cases b <;> simp

theorem w64 {n : Int} (h1 : -9223372036854775808 ≤ n) (h2 : n ≤ 9223372036854775807) : IntKind.i64.wrap n = n := by
  simp [IntKind.wrap, IntKind.bits, IntKind.signed]; omega
/-- The byte of a number. -/
def b8 (n : Int) : UInt8 := UInt8.ofNat (n % 256).toNat
theorem w8 (n : Int) : IntKind.u8.wrap n = ((b8 n).toNat : Int) := by
  simp [IntKind.wrap, IntKind.bits, IntKind.signed, b8]
  omega
theorem encB_len (a : UInt8) : (encB a).length = 1 := rfl
theorem flat_encB (a : UInt8) : flatL (encB a) = true := rfl
theorem map_b8 (n : Int) : [b8 n].map encB = [[.lf (.int .u8 (IntKind.u8.wrap n))]] := by rw [w8]; rfl

theorem u8_of {n : Int} {k : Nat} (h : n = k) (hk : k < 256) : IntKind.u8.wrap n = ((UInt8.ofNat k).toNat : Int) := by
  subst h
  rw [w8]
  congr 2
  unfold b8
  congr 1
  omega
theorem enc_u8 {n : Int} {k : Nat} (h : n = k) (hk : k < 256) : [UInt8.ofNat k].map encB = [[.lf (.int .u8 (IntKind.u8.wrap n))]] := by rw [u8_of h hk]; rfl
theorem tmodN (n : Nat) (k : Nat) : (n : Int).tmod k = ((n % k : Nat) : Int) := by rw [Int.tmod_eq_emod_of_nonneg (by omega)]; rfl
theorem tdivN (n : Nat) (k : Nat) : (n : Int).tdiv k = ((n / k : Nat) : Int) := by rw [Int.tdiv_eq_ediv_of_nonneg (by omega)]; rfl

theorem tmod128 (n : Nat) : (n : Int).tmod 128 = ((n % 128 : Nat) : Int) := tmodN n 128
theorem tdiv128 (n : Nat) : (n : Int).tdiv 128 = ((n / 128 : Nat) : Int) := tdivN n 128
theorem tmod10 (n : Nat) : (n : Int).tmod 10 = ((n % 10 : Nat) : Int) := tmodN n 10
theorem tdiv10 (n : Nat) : (n : Int).tdiv 10 = ((n / 10 : Nat) : Int) := tdivN n 10

/-- A number in base 128. -/
def varB (n : Nat) : List UInt8 := if n < 128 then [UInt8.ofNat n] else UInt8.ofNat (n % 128 + 128) :: varB (n / 128)
theorem varB_lt {n : Nat} (h : n < 128) : varB n = [UInt8.ofNat n] := by rw [varB, if_pos h]
theorem varB_ge {n : Nat} (h : ¬ n < 128) : varB n = UInt8.ofNat (n % 128 + 128) :: varB (n / 128) := by rw [varB, if_neg h]
end Go.Vm
namespace Go.Vm
open Go.Proofs
set_option maxRecDepth 100000
set_option linter.unusedVariables false
set_option linter.unusedSimpArgs false

theorem varB_le {k n : Nat} (h : n < 128 ^ k) (hk : 0 < k) : (varB n).length ≤ k := by
  have key : ∀ k n, n < 128 ^ k → 0 < k → (varB n).length ≤ k := by
    intro k
    induction k with
    | zero => intro n h h0; omega
    | succ k ih =>
      intro n h _
      by_cases hn : n < 128
      · rw [varB_lt hn]; simp
      · rw [varB_ge hn]
        rw [Nat.pow_succ] at h
        have : n / 128 < 128 ^ k := Nat.div_lt_of_lt_mul (by omega)
        have hk : 0 < k := by
          rcases Nat.eq_zero_or_pos k with rfl | h1
          · simp at h; omega
          · exact h1
        have := ih _ this hk
        simp; omega
  exact key k n h hk
theorem varB_len {n : Nat} (h : n ≤ 9223372036854775807) : (varB n).length ≤ 10 := varB_le (by omega) (by omega)
theorem varB_len6 {n : Nat} (h : n ≤ 1099511627775) : (varB n).length ≤ 6 := varB_le (by omega) (by omega)
theorem varB_pos (n : Nat) : 1 ≤ (varB n).length := by
  by_cases h : n < 128
  · rw [varB_lt h]; simp
  · rw [varB_ge h]; simp
/-- The bytes of a text; a text behind its length. -/
def bs (s : ByteArray) : List UInt8 := s.data.toList
def encT (s : ByteArray) : List UInt8 := varB s.size ++ bs s
theorem bs_len (s : ByteArray) : (bs s).length = s.size := by simp [bs]
def ofB (l : List UInt8) : ByteArray := ⟨l.toArray⟩
theorem bs_of (l : List UInt8) : bs (ofB l) = l := by simp [bs, ofB]
theorem of_bs (s : ByteArray) : ofB (bs s) = s := by simp [bs, ofB]
theorem of_size (l : List UInt8) : (ofB l).size = l.length := by rw [← bs_len, bs_of]

structure VaryX where
  l : List UInt8
  n : Nat
  hl : l.length ≤ 4294967000
  hn : n ≤ 9223372036854775807
def cVary : Con := pureC VaryX [(.take, false), (.rd, false)] [false] (fun x => [[.row 1 encB x.l], [.lf (.int .i64 x.n)]]) (fun x => [[.row 1 encB (x.l ++ varB x.n)]])


structure TextX where
  l : List UInt8
  s : ByteArray
  hl : l.length ≤ 4000000000
  hs : s.size ≤ 100000000
def cText : Con := pureC TextX [(.take, false), (.rd, false)] [false] (fun x => [[.row 1 encB x.l], [.lf (.string x.s)]]) (fun x => [[.row 1 encB (x.l ++ encT x.s)]])

structure IX where
  n : Int
  h1 : -9223372036854775808 ≤ n
  h2 : n ≤ 9223372036854775807
def numB (n : Int) : Bool := decide (0 ≤ n) && decide (n ≤ 1099511627775)
def cNum : Con := pureC IX [(.rd, false)] [false] (fun x => [[.lf (.int .i64 x.n)]]) (fun x => [[.lf (.bool (numB x.n))]])
theorem ev_l01Num : ∀ x, evFn tab [] cNum Tryd.f22 (body Tryd.f22) x := by
  rintro ⟨n, h1, h2⟩
  repeat' ((conv => whnf); refine br2 (fun h => ?_) (fun h => ?_))
  all_goals (conv => whnf)
  all_goals refine ⟨⟨rfl, ?_⟩⟩
  all_goals simp_all [numB] <;> omega
theorem l01Num_ok : FnOk Tryd.prog 22 cNum := fnOk_of fun x => fn_at tab_ok (SOk.nil) mixed (fn := Tryd.f22) (code := body Tryd.f22) ⟨Tryd.func22, rfl, by kernel_rfl, by kernel_rfl, by kernel_rfl, by kernel_rfl⟩ (ev_l01Num x)

structure PutX where
  l : List UInt8
  n : Int
  hl : l.length ≤ 4294967000
  h1 : -9223372036854775808 ≤ n
  h2 : n ≤ 9223372036854775807
def putB (l : List UInt8) (n : Int) : Bool := numB n && decide (l.length + (varB n.toNat).length ≤ 4096)
def putL (l : List UInt8) (n : Int) : List UInt8 := if putB l n then l ++ varB n.toNat else []
def cPutVar : Con := pureC PutX [(.rd, false), (.rd, false)] [false, false] (fun x => [[.row 1 encB x.l], [.lf (.int .i64 x.n)]]) (fun x => [[.row 1 encB (putL x.l x.n)], [.lf (.bool (putB x.l x.n))]])
end Go.Vm
namespace Go.Vm
open Go.Proofs
set_option maxRecDepth 100000
set_option linter.unusedVariables false
set_option linter.unusedSimpArgs false

structure PutTX where
  l : List UInt8
  s : ByteArray
  hl : l.length ≤ 4000000000
  hs : s.size ≤ 100000000
def putTB (l : List UInt8) (s : ByteArray) : Bool := decide (l.length + (encT s).length ≤ 4096)
def putTL (l : List UInt8) (s : ByteArray) : List UInt8 := if putTB l s then l ++ encT s else []
def cPutText : Con := pureC PutTX [(.rd, false), (.rd, false)] [false, false] (fun x => [[.row 1 encB x.l], [.lf (.string x.s)]]) (fun x => [[.row 1 encB (putTL x.l x.s)], [.lf (.bool (putTB x.l x.s))]])

/-! Numbers read -/
structure GetX where
  l : List UInt8
  a : Int
  hl : l.length ≤ 4294967296
  h1 : -9223372036854775808 ≤ a
  h2 : a ≤ 9223372036854775807
/-- What is read: a number and the place behind it; the number that stands there. -/
def GotN (l : List UInt8) (a n nx : Int) : Prop :=
  (nx = -1 ∧ n = 0 ∨ 0 ≤ n ∧ n ≤ 1099511627775 ∧ 0 ≤ a ∧ a < nx ∧ nx ≤ l.length) ∧
    ∀ (pre : List UInt8) (v : Nat) (post : List UInt8), l = pre ++ varB v ++ post → a = pre.length → v ≤ 1099511627775 → n = v ∧ nx = pre.length + (varB v).length
def cGetVar : Con := relC GetX [(.rd, false), (.rd, false)] [false, false] (fun x => [[.row 1 encB x.l], [.lf (.int .i64 x.a)]]) (fun x r => ∃ n nx : Int, r = [[.lf (.int .i64 n)], [.lf (.int .i64 nx)]] ∧ GotN x.l x.a n nx)

theorem gotN_none {l : List UInt8} {a : Int} (h : a < 0 ∨ (l.length : Int) ≤ a) : GotN l a 0 (-1) := by
  refine ⟨.inl ⟨rfl, rfl⟩, fun pre v post h1 h2 _ => ?_⟩
  have := congrArg List.length h1
  have := varB_pos v
  simp only [List.length_append] at *
  omega

/-- The digits so far: k of them, in sum n; what is left of the number that stands there. -/
structure Dig (l : List UInt8) (a : Nat) (k n : Nat) : Prop where
  lt : n < 128 ^ k
  rest : ∀ (pre : List UInt8) (v : Nat) (post : List UInt8), l = pre ++ varB v ++ post → a = pre.length → v ≤ 1099511627775 →
    ∃ v', l.drop (a + k) = varB v' ++ post ∧ v = n + 128 ^ k * v' ∧ (varB v).length = k + (varB v').length ∧ (1 ≤ k → 1 ≤ v')

theorem Dig.zero (l : List UInt8) (a : Nat) : Dig l a 0 0 := ⟨by simp, fun pre v post h1 h2 _ => ⟨v, by rw [h1, h2]; simp, by simp, by simp, by omega⟩⟩

theorem u8_lt (d : UInt8) : d.toNat < 256 := d.toNat_lt
theorem toNat_of {k : Nat} (h : k < 256) : (UInt8.ofNat k).toNat = k := by simp [UInt8.toNat_ofNat]; omega
theorem head_eq {x d : UInt8} {r : List UInt8} (h : (x :: r)[0]? = some d) : x = d := by simpa only [List.getElem?_cons_zero, Option.some.injEq] using h
theorem Dig.step {l : List UInt8} {a k n : Nat} (h : Dig l a k n) {d : UInt8} (hd : l[a + k]? = some d) (hge : 128 ≤ d.toNat) : Dig l a (k + 1) (n + d.toNat % 128 * 128 ^ k) := by
  refine ⟨?_, fun pre v post h1 h2 h3 => ?_⟩
  · have h4 := h.lt
    have h5 : d.toNat % 128 ≤ 127 := by omega
    have h6 : d.toNat % 128 * 128 ^ k ≤ 127 * 128 ^ k := Nat.mul_le_mul_right _ h5
    rw [Nat.pow_succ]; omega
  · obtain ⟨v', e1, e2, e3, e4⟩ := h.rest pre v post h1 h2 h3
    by_cases hv : v' < 128
    · exfalso
      rw [varB_lt hv] at e1
      have : (l.drop (a + k))[0]? = some d := by simpa using hd
      rw [e1] at this
      have := head_eq this
      subst this
      rw [toNat_of (by omega)] at hge
      omega
    · rw [varB_ge hv] at e1 e3
      have : (l.drop (a + k))[0]? = some d := by simpa using hd
      rw [e1] at this
      have := head_eq this
      subst this
      refine ⟨v' / 128, ?_, ?_, ?_, fun _ => by omega⟩
      · have := congrArg (List.drop 1) e1
        rw [List.drop_drop] at this
        simpa [Nat.add_assoc] using this
      · rw [toNat_of (by omega), e2, Nat.pow_succ]
        have h6 : (v' % 128 + 128) % 128 = v' % 128 := by omega
        rw [h6]
        have h7 : v' = v' % 128 + 128 * (v' / 128) := by omega
        calc n + 128 ^ k * v' = n + 128 ^ k * (v' % 128 + 128 * (v' / 128)) := by rw [← h7]
          _ = n + v' % 128 * 128 ^ k + 128 ^ k * 128 * (v' / 128) := by rw [Nat.mul_add, Nat.mul_comm (128 ^ k) (v' % 128), Nat.mul_assoc, Nat.add_assoc]
      · simp only [List.length_cons] at e3; omega
theorem Dig.last {l : List UInt8} {a k n : Nat} (h : Dig l a k n) {d : UInt8} (hd : l[a + k]? = some d) (hlt : d.toNat < 128) {pre : List UInt8} {v : Nat} {post : List UInt8} (h1 : l = pre ++ varB v ++ post) (h2 : a = pre.length) (h3 : v ≤ 1099511627775) :
    v = n + d.toNat * 128 ^ k ∧ (varB v).length = k + 1 ∧ (1 ≤ k → 1 ≤ d.toNat) := by
  obtain ⟨v', e1, e2, e3, e4⟩ := h.rest pre v post h1 h2 h3
  have h5 : (l.drop (a + k))[0]? = some d := by simpa using hd
  by_cases hv : v' < 128
  · rw [varB_lt hv] at e1 e3
    rw [e1] at h5
    have := head_eq h5
    subst this
    rw [toNat_of (by omega), Nat.mul_comm v']
    exact ⟨e2, e3, e4⟩
  · exfalso
    rw [varB_ge hv] at e1
    rw [e1] at h5
    have := head_eq h5
    subst this
    rw [toNat_of (by omega)] at hlt
    omega
theorem Dig.out {l : List UInt8} {a k n : Nat} (h : Dig l a k n) (hk : l.length ≤ a + k ∨ 6 ≤ k) (h0 : a + k ≤ l.length) : GotN l a 0 (-1) := by
  refine ⟨.inl ⟨rfl, rfl⟩, fun pre v post h1 h2 h3 => ?_⟩
  exfalso
  have h2' : a = pre.length := by omega
  obtain ⟨v', e1, e2, e3, e4⟩ := h.rest pre v post h1 h2' h3
  have h5 := varB_pos v'
  have h6 := varB_len6 h3
  have h7 := congrArg List.length e1
  simp only [List.length_append, List.length_drop] at h7
  omega

theorem pow_le6 {k : Nat} (h : k ≤ 6) : 128 ^ k ≤ 4398046511104 := Nat.le_trans (Nat.pow_le_pow_right (by omega) h) (by decide)
/-- The digits' number has so many digits just if the last one isn't nought. -/
theorem dig_len {n k d : Nat} (hn : n < 128 ^ k) (hd : d < 128) : (varB (n + d * 128 ^ k)).length = k + 1 ↔ (d ≠ 0 ∨ k = 0) := by
  have key : ∀ k n d, n < 128 ^ k → d < 128 → ((varB (n + d * 128 ^ k)).length = k + 1 ↔ (d ≠ 0 ∨ k = 0)) ∧ (varB (n + d * 128 ^ k)).length ≤ k + 1 := by
    intro k
    induction k with
    | zero =>
      intro n d hn hd
      have : n = 0 := by simpa using hn
      subst this
      rw [varB_lt (by omega)]; simp
    | succ k ih =>
      intro n d hn hd
      rw [Nat.pow_succ] at hn
      have h1 : n / 128 < 128 ^ k := Nat.div_lt_of_lt_mul (by omega)
      obtain ⟨i1, i2⟩ := ih (n / 128) d h1 hd
      have hdiv : (n + d * 128 ^ (k + 1)) / 128 = n / 128 + d * 128 ^ k := by
        rw [Nat.pow_succ, ← Nat.mul_assoc, Nat.add_mul_div_right _ _ (by omega : 0 < 128)]
      by_cases hlt : n + d * 128 ^ (k + 1) < 128
      · rw [varB_lt hlt]
        have : d = 0 := by
          rcases Nat.eq_zero_or_pos d with h | h
          · exact h
          · exfalso
            have : 128 ^ (k + 1) ≤ d * 128 ^ (k + 1) := Nat.le_mul_of_pos_left _ h
            have : 128 ≤ 128 ^ (k + 1) := by rw [Nat.pow_succ]; have : 128 ^ 0 ≤ 128 ^ k := Nat.pow_le_pow_right (by omega) (Nat.zero_le k); simp only [Nat.pow_zero] at this; omega
            omega
        subst this
        simp
      · rw [varB_ge hlt, hdiv]
        simp only [List.length_cons]
        constructor
        · rw [show (varB (n / 128 + d * 128 ^ k)).length + 1 = k + 1 + 1 ↔ (varB (n / 128 + d * 128 ^ k)).length = k + 1 by omega, i1]
          constructor
          · rintro (h | h)
            · exact .inl h
            · subst h
              have hn1 : n < 128 := by simpa using hn
              refine .inl fun h0 => hlt (by subst h0; simpa using hn1)
          · rintro (h | h)
            · exact .inl h
            · omega
        · omega
  exact (key k n d hn hd).1
end Go.Vm
namespace Go.Vm
open Go.Proofs
set_option maxRecDepth 100000
set_option linter.unusedVariables false
set_option linter.unusedSimpArgs false

theorem gotN_of {l : List UInt8} {a k n : Nat} (h : Dig l a k n) {d : UInt8} (hd : l[a + k]? = some d) (hlt : d.toNat < 128) (hm : n + d.toNat * 128 ^ k ≤ 1099511627775) : GotN l a ((n + d.toNat * 128 ^ k : Nat) : Int) ((a + k + 1 : Nat) : Int) := by
  have hl : a + k < l.length := (List.getElem?_eq_some_iff.1 hd).1
  refine ⟨.inr ⟨by omega, by omega, by omega, by omega, by omega⟩, fun pre v post h1 h2 h3 => ?_⟩
  obtain ⟨e1, e2, e3⟩ := h.last hd hlt h1 (by omega) h3
  omega
theorem gotN_bad {l : List UInt8} {a k n : Nat} (h : Dig l a k n) {d : UInt8} (hd : l[a + k]? = some d) (hlt : d.toNat < 128) (hm : ¬ n + d.toNat * 128 ^ k ≤ 1099511627775 ∨ (d.toNat = 0 ∧ 1 ≤ k)) : GotN l a 0 (-1) := by
  refine ⟨.inl ⟨rfl, rfl⟩, fun pre v post h1 h2 h3 => ?_⟩
  obtain ⟨e1, e2, e3⟩ := h.last hd hlt h1 (by omega) h3
  omega
theorem dig_bound {l : List UInt8} {a k n : Nat} (h : Dig l a k n) (hk : k ≤ 5) {d : Nat} (hd : d < 256) : 128 ^ k ≤ 34359738368 ∧ n < 34359738368 ∧ d % 128 * 128 ^ k ≤ 127 * 34359738368 := by
  have h1 : 128 ^ k ≤ 34359738368 := Nat.le_trans (Nat.pow_le_pow_right (by omega) hk) (by decide)
  have h2 := h.lt
  have h3 : d % 128 * 128 ^ k ≤ 127 * 34359738368 := Nat.mul_le_mul (by omega) h1
  exact ⟨h1, by omega, h3⟩

end Go.Vm
namespace Go.Vm
open Go.Proofs
set_option maxRecDepth 100000
set_option linter.unusedVariables false
set_option linter.unusedSimpArgs false


/-- What is read: a text and the place behind it; the text that stands there. -/
def GotT (l : List UInt8) (a : Int) (t : ByteArray) (nx : Int) : Prop :=
  (nx = -1 ∧ t = ⟨#[]⟩ ∨ 0 ≤ a ∧ a < nx ∧ nx ≤ l.length ∧ t.size ≤ l.length) ∧
    ∀ (pre : List UInt8) (u : ByteArray) (post : List UInt8), l = pre ++ encT u ++ post → a = pre.length → u.size ≤ 1099511627775 → t = u ∧ nx = pre.length + (encT u).length
def cGetText : Con := relC GetX [(.rd, false), (.rd, false)] [false, false] (fun x => [[.row 1 encB x.l], [.lf (.int .i64 x.a)]]) (fun x r => ∃ (t : ByteArray) (nx : Int), r = [[.lf (.string t)], [.lf (.int .i64 nx)]] ∧ GotT x.l x.a t nx)

theorem gotT_none {l : List UInt8} {a n nx : Int} (h : GotN l a n nx) (hb : nx < 0 ∨ (l.length : Int) - nx < n) : GotT l a ⟨#[]⟩ (-1) := by
  refine ⟨.inl ⟨rfl, rfl⟩, fun pre u post h1 h2 h3 => ?_⟩
  obtain ⟨e1, e2⟩ := h.2 pre u.size (bs u ++ post) (by rw [h1]; simp [encT]) h2 h3
  have := congrArg List.length h1
  simp only [List.length_append, encT, bs_len] at this
  omega
theorem gotT_of {l : List UInt8} {a : Int} {n nx : Nat} (h : GotN l a n nx) (hb : nx + n ≤ l.length) : GotT l a (ofB ((l.drop nx).take n)) ((nx + n : Nat) : Int) := by
  have h0 := h.1
  refine ⟨.inr ⟨by omega, by omega, by omega, by rw [of_size, List.length_take, List.length_drop]; omega⟩, fun pre u post h1 h2 h3 => ?_⟩
  obtain ⟨e1, e2⟩ := h.2 pre u.size (bs u ++ post) (by rw [h1]; simp [encT]) h2 h3
  have hn : n = u.size := by omega
  have hnx : nx = pre.length + (varB u.size).length := by omega
  refine ⟨?_, by simp only [encT, List.length_append, bs_len]; omega⟩
  have : (l.drop nx).take n = bs u := by
    rw [h1, hnx, hn, ← List.length_append]
    have : pre ++ encT u ++ post = (pre ++ varB u.size) ++ (bs u ++ post) := by simp [encT]
    rw [this, List.drop_left, ← bs_len, List.take_left]
  rw [this, of_bs]

end Go.Vm
namespace Go.Vm
open Go.Proofs
set_option maxRecDepth 100000
set_option linter.unusedVariables false
set_option linter.unusedSimpArgs false

/-! The order of texts -/
theorem bl_flip : ∀ a b : List UInt8, Op.bytesLess b a = !(Op.bytesLess a b || a == b)
  | [], [] => rfl
  | [], _ :: _ => by simp [Op.bytesLess]
  | _ :: _, [] => by simp [Op.bytesLess]
  | a :: x, b :: y => by
    have ih := bl_flip x y
    simp only [Op.bytesLess]
    rcases Nat.lt_trichotomy a.toNat b.toNat with h | h | h
    · have h1 : a < b := UInt8.lt_iff_toNat_lt.mpr h
      have h2 : ¬ b < a := fun e => by have := UInt8.lt_iff_toNat_lt.mp e; omega
      have h3 : a ≠ b := fun e => by subst e; omega
      simp [h1, h2, h3, Ne.symm h3]
    · have h1 : a = b := UInt8.toNat_inj.mp h
      subst h1
      have h2 : ¬ a < a := fun e => by have := UInt8.lt_iff_toNat_lt.mp e; omega
      simp only [h2, decide_false, Bool.false_or, beq_self_eq_true, Bool.true_and, ih, List.cons_beq_cons]
    · have h1 : b < a := UInt8.lt_iff_toNat_lt.mpr h
      have h2 : ¬ a < b := fun e => by have := UInt8.lt_iff_toNat_lt.mp e; omega
      have h3 : a ≠ b := fun e => by subst e; omega
      simp [h1, h2, h3]
theorem toList_inj {a b : ByteArray} (h : a.toList = b.toList) : a = b := by
  rw [ByteArray.toList_eq, ByteArray.toList_eq] at h
  obtain ⟨⟨x⟩⟩ := a
  obtain ⟨⟨y⟩⟩ := b
  simpa using h
theorem strEq_iff {a b : ByteArray} : strEq a b = true ↔ a = b := by
  unfold strEq
  rw [beq_iff_eq]
  exact ⟨toList_inj, fun h => by rw [h]⟩
theorem strEq_no {a b : ByteArray} : strEq a b = false ↔ a ≠ b := by
  rw [Ne, ← strEq_iff]; cases strEq a b <;> simp
theorem strEq_refl (a : ByteArray) : strEq a a = true := strEq_iff.2 rfl
theorem strEq_comm (a b : ByteArray) : strEq a b = strEq b a := by
  cases h : strEq a b with
  | true => rw [strEq_iff.1 h, strEq_refl]
  | false => exact (strEq_no.2 (Ne.symm (strEq_no.1 h))).symm
theorem strLt_flip (a b : ByteArray) : strLt b a = !(strLt a b || strEq a b) := bl_flip _ _
theorem strLt_gtr (a b : ByteArray) : (!(strLt b a || strEq b a)) = strLt a b := (strLt_flip b a).symm

def emp (s : ByteArray) : Bool := strEq s ⟨#[]⟩
theorem emp_iff {s : ByteArray} : emp s = true ↔ s = ⟨#[]⟩ := strEq_iff
theorem emp_no {s : ByteArray} : emp s = false ↔ s ≠ ⟨#[]⟩ := strEq_no

def userOkB (s : ByteArray) : Bool := decide (1 ≤ s.size) && decide (s.size ≤ 8)
def uvalOkB (s : ByteArray) : Bool := decide (s.size ≤ 20)
def keyOkB (s : ByteArray) : Bool := decide (1 ≤ s.size) && decide (s.size ≤ 16)
def rangeOkB (a b : ByteArray) : Bool := decide (a.size ≤ 17) && decide (b.size ≤ 17) && (emp b || strLt a b)
def reachOkB (a b : ByteArray) : Bool := rangeOkB a b && decide (a.size ≤ 9) && decide (b.size ≤ 9)

/-- A test of one text; of two in a struct. -/
def cS1 (f : ByteArray → Bool) : Con := pureC ByteArray [(.rd, false)] [false] (fun k => [[.lf (.string k)]]) (fun k => [[.lf (.bool (f k))]])
def cS2 (f : ByteArray → ByteArray → Bool) : Con := pureC (ByteArray × ByteArray) [(.rd, true)] [false] (fun k => [[.lf (.string k.1), .lf (.string k.2)]]) (fun k => [[.lf (.bool (f k.1 k.2))]])
def cUserOk : Con := cS1 userOkB
def cUvalOk : Con := cS1 uvalOkB
def cKeyOk : Con := cS1 keyOkB
def cRangeOk : Con := cS2 rangeOkB
def cReachOk : Con := cS2 reachOkB
structure WithinX where
  a : Int
  b : Int
  c : Int
def cWithin : Con := pureC WithinX [(.rd, false), (.rd, false), (.rd, false)] [false] (fun x => [[.lf (.int .i64 x.a)], [.lf (.int .i64 x.b)], [.lf (.int .i64 x.c)]]) (fun x => [[.lf (.bool (decide (x.b ≤ x.a) && decide (x.a ≤ x.c)))]])

theorem ev_within : ∀ x, evFn tab [] cWithin Tryd.f25 (body Tryd.f25) x := by
  rintro ⟨a, b, c⟩
  repeat' ((conv => whnf); refine br2 (fun h => ?_) (fun h => ?_))
  all_goals (conv => whnf)
  all_goals refine ⟨⟨rfl, ?_⟩⟩
  · show _ = [[D.lf (.bool (decide (b ≤ a) && decide (a ≤ c)))]]
    rw [show decide (b ≤ a) = true from h, Bool.true_and]
  · show _ = [[D.lf (.bool (decide (b ≤ a) && decide (a ≤ c)))]]
    rw [show decide (b ≤ a) = false from h, Bool.false_and]
theorem within_ok : FnOk Tryd.prog 25 cWithin := fnOk_of fun x => fn_at tab_ok (SOk.nil) mixed (fn := Tryd.f25) (code := body Tryd.f25) ⟨Tryd.func25, rfl, by kernel_rfl, by kernel_rfl, by kernel_rfl, by kernel_rfl⟩ (ev_within x)
theorem natI (a b : Nat) : decide ((a : Int) ≤ b) = decide (a ≤ b) := decide_eq_decide.2 (by omega)
theorem natG (a b : Nat) : decide ((a : Int) > b) = !decide (a ≤ b) := by
  by_cases h : a ≤ b
  · rw [decide_eq_true h, decide_eq_false (by omega)]; rfl
  · rw [decide_eq_false h, decide_eq_true (by omega)]; rfl

/-! Records -/
structure RecX where
  kind : Int
  key : ByteArray
  val : ByteArray
  lo : ByteArray
  hi : ByteArray
def RecX.ds (r : RecX) : List D := [.lf (.int .i64 r.kind), .lf (.string r.key), .lf (.string r.val), .lf (.string r.lo), .lf (.string r.hi)]
def recOkB (r : RecX) : Bool :=
  if r.kind = 1 then userOkB r.key && uvalOkB r.val && (emp r.lo && emp r.hi)
  else if r.kind = 2 then userOkB r.key && emp r.val && (emp r.lo && emp r.hi)
  else if r.kind = 3 ∨ r.kind = 4 then emp r.key && emp r.val && reachOkB r.lo r.hi
  else false
def cRecOk : Con := pureC RecX [(.rd, true)] [false] (fun r => [r.ds]) (fun r => [[.lf (.bool (recOkB r))]])
theorem eqf_strs (a b : ByteArray) : (!strEq a b) = true ↔ a ≠ b := by rw [Bool.not_eq_true', strEq_no]

/-! Equal structs -/
structure Rng2 where
  a : ByteArray
  b : ByteArray
  c : ByteArray
  d : ByteArray
def cEqRange : Con := pureC Rng2 [(.rd, true), (.rd, true)] [false] (fun x => [[.lf (.string x.a), .lf (.string x.b)], [.lf (.string x.c), .lf (.string x.d)]]) (fun x => [[.lf (.bool (strEq x.a x.c && strEq x.b x.d))]])
noncomputable def cEqRec : Con := pureC (RecX × RecX) [(.rd, true), (.rd, true)] [false] (fun x => [x.1.ds, x.2.ds]) (fun x => [[.lf (.bool (eqX x.1 x.2))]])
end Go.Vm
namespace Go.Vm
open Go.Proofs
set_option maxRecDepth 100000
set_option linter.unusedVariables false
set_option linter.unusedSimpArgs false

structure TxX where
  c : Int
  e : Int
  n : Int
def TxX.ds (x : TxX) : List D := [.lf (.int .i64 x.c), .lf (.int .i64 x.e), .lf (.int .i64 x.n)]
structure RngX where
  lo : ByteArray
  hi : ByteArray
def RngX.ds (x : RngX) : List D := [.lf (.string x.lo), .lf (.string x.hi)]
structure LockX where
  tx : TxX
  rng : RngX
  ex : Bool
def LockX.ds (x : LockX) : List D := [.lf (.int .i64 x.tx.c), .lf (.int .i64 x.tx.e), .lf (.int .i64 x.tx.n), .lf (.string x.rng.lo), .lf (.string x.rng.hi), .lf (.bool x.ex)]
theorem LockX.len (x : LockX) : x.ds.length = 6 := rfl
theorem LockX.flat (x : LockX) : flatL x.ds = true := rfl

/-- A copy of a struct; of a slice; whether two are alike; how large one is. -/
def cCopy {X : Type} (ds : X → List D) : Con := pureC X [(.rd, true)] [true] (fun x => [ds x]) (fun x => [ds x])
noncomputable def cEq {X : Type} (ds : X → List D) : Con := pureC (X × X) [(.rd, true), (.rd, true)] [false] (fun x => [ds x.1, ds x.2]) (fun x => [[.lf (.bool (eqX x.1 x.2))]])
structure LstX (X : Type) where
  l : List X
  hl : l.length ≤ 1048576
def cCopyS {X : Type} (sz : Nat) (ds : X → List D) : Con := pureC (LstX X) [(.rd, false)] [false] (fun x => [[.row sz ds x.l]]) (fun x => [[.row sz ds x.l]])
noncomputable def cEqS {X : Type} (sz : Nat) (ds : X → List D) : Con := pureC (List X × List X) [(.rd, false), (.rd, false)] [false] (fun x => [[.row sz ds x.1], [.row sz ds x.2]]) (fun x => [[.lf (.bool (eqX x.1 x.2))]])
structure SzX (X : Type) (B0 : X → Prop) where
  x : X
  left : Int
  h1 : 0 ≤ left
  h2 : left ≤ 1048576
  hb : B0 x
/-- What is left behind a struct or a slice is not more; where it is no less than nothing, the sizes fit. -/
def cSz {X : Type} (ds : X → List D) (B0 B : X → Prop) : Con := relC (SzX X B0) [(.rd, true), (.rd, false)] [false] (fun x => [ds x.x, [.lf (.int .i64 x.left)]]) (fun x r => ∃ k : Int, r = [[.lf (.int .i64 k)]] ∧ -1 ≤ k ∧ k ≤ x.left ∧ (0 ≤ k → B x.x))
def cSzS {X : Type} (sz : Nat) (ds : X → List D) (B0 B : X → Prop) : Con := relC (SzX (List X) fun l => l.length ≤ 9223372036854775807 ∧ ∀ y ∈ l, B0 y) [(.rd, false), (.rd, false)] [false] (fun x => [[.row sz ds x.x], [.lf (.int .i64 x.left)]])
  (fun x r => ∃ k : Int, r = [[.lf (.int .i64 k)]] ∧ -1 ≤ k ∧ k ≤ x.left ∧ (0 ≤ k → x.x.length + k ≤ x.left ∧ ∀ y ∈ x.x, B y))
def maxS : Nat := 9223372036854775807
def rngB0 (x : RngX) : Prop := x.lo.size ≤ maxS ∧ x.hi.size ≤ maxS
def rngB (x : RngX) : Prop := x.lo.size ≤ 1048576 ∧ x.hi.size ≤ 1048576
def lockB0 (x : LockX) : Prop := rngB0 x.rng
def lockB (x : LockX) : Prop := rngB x.rng

theorem ev_eqTx : ∀ x, evFn tab [] (cEq TxX.ds) Tryd.f7 (body Tryd.f7) x := by
  rintro ⟨⟨a, b, c⟩, ⟨d, e, f⟩⟩
  repeat' ((conv => whnf); refine br2 (fun h => ?_) (fun h => ?_))
  all_goals (conv => whnf)
  all_goals refine ⟨⟨rfl, ?_⟩⟩
  all_goals show _ = [[D.lf (.bool (eqX (⟨a, b, c⟩ : TxX) ⟨d, e, f⟩))]]
  all_goals congr 4
  all_goals rw [eq_comm]
  all_goals simp_all [eqX_iff, eqX_no]
theorem eqTx_ok : FnOk Tryd.prog 7 (cEq TxX.ds) := fnOk_of fun x => fn_at tab_ok (SOk.nil) mixed (fn := Tryd.f7) (code := body Tryd.f7) ⟨Tryd.func7, rfl, by kernel_rfl, by kernel_rfl, by kernel_rfl, by kernel_rfl⟩ (ev_eqTx x)
def rng0 : RngX := ⟨⟨#[]⟩, ⟨#[]⟩⟩
def lock0 : LockX := ⟨⟨0, 0, 0⟩, ⟨⟨#[]⟩, ⟨#[]⟩⟩, false⟩
theorem set_at {α : Type} {l : List α} {i j : Nat} {y : α} (hi : i < l.length) : (l.set i y)[j]? = if i = j then some y else l[j]? := by
  rw [List.getElem?_set]
  split
  · rename_i e; subst e; simp [hi]
  · rfl

/-! Held and waiting locks -/
structure LocksX where
  held : List LockX
  wait : List LockX
def LocksX.ds (x : LocksX) : List D := [.row 6 LockX.ds x.held, .row 6 LockX.ds x.wait]
def locksB0 (x : LocksX) : Prop := (x.held.length ≤ 9223372036854775807 ∧ ∀ y ∈ x.held, lockB0 y) ∧ (x.wait.length ≤ 9223372036854775807 ∧ ∀ y ∈ x.wait, lockB0 y)
def locksB (x : LocksX) : Prop := x.held.length + x.wait.length ≤ 1048576 ∧ (∀ y ∈ x.held, lockB y) ∧ ∀ y ∈ x.wait, lockB y
structure LocksY where
  x : LocksX
  h1 : x.held.length ≤ 1048576
  h2 : x.wait.length ≤ 1048576
def cToLocks : Con := pureC LocksY [(.rd, true)] [true] (fun x => [x.x.ds]) (fun x => [x.x.ds])
end Go.Vm
namespace Go.Vm
open Go.Proofs
set_option maxRecDepth 100000
set_option linter.unusedVariables false
set_option linter.unusedSimpArgs false

def numL (n : Nat) : List UInt8 := if n < 10 then [UInt8.ofNat (48 + n)] else numL (n / 10) ++ [UInt8.ofNat (48 + n % 10)]
theorem numL_lt {n : Nat} (h : n < 10) : numL n = [UInt8.ofNat (48 + n)] := by rw [numL, if_pos h]
theorem numL_ge {n : Nat} (h : ¬ n < 10) : numL n = numL (n / 10) ++ [UInt8.ofNat (48 + n % 10)] := by rw [numL, if_neg h]
theorem numL_len {n k : Nat} (h : n < 10 ^ (k + 1)) : (numL n).length ≤ k + 1 := by
  induction k generalizing n with
  | zero => rw [numL_lt (by simpa using h)]; simp
  | succ k ih =>
    by_cases h0 : n < 10
    · rw [numL_lt h0]; simp
    · rw [numL_ge h0]
      have := ih (n := n / 10) (by rw [Nat.pow_succ] at h; exact Nat.div_lt_of_lt_mul (by omega))
      simp; omega
theorem numL_pos (n : Nat) : 1 ≤ (numL n).length := by
  by_cases h : n < 10
  · rw [numL_lt h]; simp
  · rw [numL_ge h]; simp
def numT (n : Int) : ByteArray := if numB n then ofB (numL n.toNat) else ⟨#[]⟩
theorem numT_no {n : Int} (h : numB n = false) : numT n = ⟨#[]⟩ := by rw [numT, if_neg (by rw [h]; simp)]
theorem numT_yes {k : Nat} (h : k ≤ 1099511627775) : numT (k : Int) = ofB (numL k) := by rw [numT, if_pos (by simp [numB]; omega), Int.toNat_natCast]
theorem numT_size (n : Int) : (numT n).size ≤ 13 := by
  unfold numT
  split
  · rename_i h
    rw [of_size]
    have : n.toNat < 10 ^ 13 := by simp [numB] at h; omega
    exact numL_len (k := 12) this
  · decide
def cNumText : Con := pureC IX [(.rd, false)] [false] (fun x => [[.lf (.int .i64 x.n)]]) (fun x => [[.lf (.string (numT x.n))]])
theorem dig_u8 {n : Int} {k : Nat} (h : n = k) (hk : k < 208) : IntKind.u8.wrap (IntKind.i64.wrap (48 + n)) = ((UInt8.ofNat (48 + k)).toNat : Int) := by
  subst h
  exact u8_of (k := 48 + k) (by rw [w64 (by omega) (by omega)]; omega) (by omega)
theorem ev_sNumText : ∀ n x, (fun x => x.n.toNat) x = n → evFnX tab [(23, cNumText.below (fun x => x.n.toNat) n), (22, cNum)] cNumText Tryd.f23 (body Tryd.f23) x := by
  rintro q ⟨n, h1, h2⟩ rfl
  conv => whnf
  refine ⟨⟨n, h1, h2⟩, rfl, ?_⟩
  rintro _ _ ⟨rfl, rfl⟩
  conv => whnf
  refine br2 (fun h3 => ?_) (fun h3 => ?_)
  · have h3' : numB n = false := by simpa using h3
    conv => whnf
    refine ⟨⟨rfl, ?_⟩⟩
    show _ = [[D.lf (.string (numT n))]]
    rw [numT_no h3']
  have h3' : numB n = true := by simpa using h3
  obtain ⟨h4, h5⟩ : 0 ≤ n ∧ n ≤ 1099511627775 := by simpa [numB] using h3'
  obtain ⟨k, rfl⟩ : ∃ k : Nat, n = k := ⟨n.toNat, by omega⟩
  conv => whnf
  refine br2 (fun h6 => ?_) (fun h6 => ?_)
  · have h6' : k < 10 := by have h6' : (k : Int) < 10 := of_decide_eq_true h6; omega
    conv => whnf
    refine ⟨[UInt8.ofNat (48 + k)], by
      show [[D.lf (.int .u8 (IntKind.u8.wrap (IntKind.i64.wrap (48 + (k : Int)))))]] = _
      rw [dig_u8 rfl (by omega)]; rfl, ?_⟩
    conv => whnf
    refine ⟨⟨rfl, ?_⟩⟩
    show _ = [[D.lf (.string (numT (k : Int)))]]
    rw [numT_yes (by omega), numL_lt h6']; rfl
  have h6' : ¬ k < 10 := by have h6' : ¬ (k : Int) < 10 := of_decide_eq_false h6; omega
  have hd : IntKind.i64.wrap ((k : Int).tdiv 10) = ((k / 10 : Nat) : Int) := by rw [tdiv10, w64 (by omega) (by omega)]
  have hE : [[D.lf (.int .u8 (IntKind.u8.wrap (IntKind.i64.wrap (48 + (k : Int).tmod 10))))]] = [UInt8.ofNat (48 + k % 10)].map encB := by
    rw [dig_u8 (tmod10 k) (by omega)]; rfl
  have hI : [[D.lf (.int .i64 ((k / 10 : Nat) : Int))]] = [[D.lf (.int .i64 (IntKind.i64.wrap ((k : Int).tdiv 10)))]] := by rw [hd]
  have hs := numT_size ((k / 10 : Nat) : Int)
  have hF : [[D.lf (.string (numT ((k / 10 : Nat) : Int) ++ ⟨[UInt8.ofNat (48 + k % 10)].toArray⟩))]] = [[D.lf (.string (numT (k : Int)))]] := by
    rw [numT_yes (k := k) (by omega), numT_yes (k := k / 10) (by omega), numL_ge h6']
    congr 4
  repeat' ((conv => whnf); first
    | refine rc_i rfl ?_
    | refine rc_i ⟨_, hE, rfl⟩ ?_
    | refine ⟨_, hE, ?_⟩
    | (refine ⟨⟨⟨((k / 10 : Nat) : Int), by omega, by omega⟩, (show ((k / 10 : Nat) : Int).toNat < (k : Int).toNat by omega)⟩, hI, ?_⟩; rintro _ _ ⟨rfl, rfl⟩)
    | refine ⟨(show (numT ((k / 10 : Nat) : Int)).size + 1 ≤ 4294967296 by omega), ?_⟩
    | exact ⟨⟨rfl, hF⟩⟩
    | refine ⟨?_, ?_⟩)
theorem sNumText_ok : FnOk Tryd.prog 23 cNumText := fn_rec (fun x => x.n.toNat) fun n hs x hx => fnX_at tab_ok (SOk.cons hs (SOk.cons l01Num_ok SOk.nil)) mixed (fn := Tryd.f23) (code := body Tryd.f23) ⟨Tryd.func23, rfl, by kernel_rfl, by kernel_rfl, by kernel_rfl, by kernel_rfl⟩ (ev_sNumText n x hx)
end Go.Vm
namespace Go.Vm
open Go.Proofs
set_option maxRecDepth 100000
set_option linter.unusedVariables false
set_option linter.unusedSimpArgs false

def txOkB (x : TxX) : Bool := decide (0 ≤ x.c) && decide (x.c ≤ 7) && decide (1 ≤ x.e) && decide (x.e ≤ 999) && decide (1 ≤ x.n) && decide (x.n ≤ 999)
def cTxOk : Con := pureC TxX [(.rd, true)] [false] (fun x => [x.ds]) (fun x => [[.lf (.bool (txOkB x))]])
theorem ev_sTxOk : ∀ x, evFnX tab [] cTxOk Tryd.f10 (body Tryd.f10) x := by
  rintro ⟨c, e, n⟩
  repeat' ((conv => whnf); refine br2 (fun h => ?_) (fun h => ?_))
  all_goals (conv => whnf)
  all_goals refine ⟨⟨rfl, ?_⟩⟩
  all_goals show _ = [[D.lf (.bool (txOkB ⟨c, e, n⟩))]]
  all_goals simp_all [txOkB]
  all_goals omega
theorem sTxOk_ok : FnOk Tryd.prog 10 cTxOk := fnOk_of fun x => fnX_at tab_ok (SOk.nil) mixed (fn := Tryd.f10) (code := body Tryd.f10) ⟨Tryd.func10, rfl, by kernel_rfl, by kernel_rfl, by kernel_rfl, by kernel_rfl⟩ (ev_sTxOk x)
theorem ev_iTxOk : ∀ x, evFnX tab [(25, cWithin)] cTxOk Tryd.f20 (body Tryd.f20) x := by
  rintro ⟨c, e, n⟩
  conv => whnf
  refine ⟨⟨c, 0, 7⟩, rfl, ?_⟩
  rintro _ _ ⟨rfl, rfl⟩
  conv => whnf
  refine br2 (fun h1 => ?_) (fun h1 => ?_)
  · conv => whnf
    refine ⟨⟨e, 1, 999⟩, rfl, ?_⟩
    rintro _ _ ⟨rfl, rfl⟩
    conv => whnf
    refine br2 (fun h2 => ?_) (fun h2 => ?_)
    · conv => whnf
      refine ⟨⟨n, 1, 999⟩, rfl, ?_⟩
      rintro _ _ ⟨rfl, rfl⟩
      conv => whnf
      refine ⟨⟨rfl, ?_⟩⟩
      show [[D.lf (.bool (decide (1 ≤ n) && decide (n ≤ 999)))]] = [[D.lf (.bool (txOkB ⟨c, e, n⟩))]]
      replace h1 : (decide (0 ≤ c) && decide (c ≤ 7)) = true := h1
      replace h2 : (decide (1 ≤ e) && decide (e ≤ 999)) = true := h2
      simp_all [txOkB]
    · conv => whnf
      refine ⟨⟨rfl, ?_⟩⟩
      show _ = [[D.lf (.bool (txOkB ⟨c, e, n⟩))]]
      replace h2 : (decide (1 ≤ e) && decide (e ≤ 999)) = false := h2
      simp [txOkB, Bool.and_assoc] at h2 ⊢
      intros; omega
  · conv => whnf
    refine ⟨⟨rfl, ?_⟩⟩
    show _ = [[D.lf (.bool (txOkB ⟨c, e, n⟩))]]
    replace h1 : (decide (0 ≤ c) && decide (c ≤ 7)) = false := h1
    simp [txOkB, Bool.and_assoc] at h1 ⊢
    intros; omega
theorem iTxOk_ok : FnOk Tryd.prog 20 cTxOk := fnOk_of fun x => fnX_at tab_ok (SOk.cons within_ok SOk.nil) mixed (fn := Tryd.f20) (code := body Tryd.f20) ⟨Tryd.func20, rfl, by kernel_rfl, by kernel_rfl, by kernel_rfl, by kernel_rfl⟩ (ev_iTxOk x)

/-! What two ranges have in common -/
def bothLo (a b : RngX) : ByteArray := if strLt a.lo b.lo then b.lo else a.lo
def bothHi (a b : RngX) : ByteArray := if emp a.hi || (!emp b.hi && strLt b.hi a.hi) then b.hi else a.hi
def bothB (a b : RngX) : Bool := rangeOkB a.lo a.hi && rangeOkB b.lo b.hi && rangeOkB (bothLo a b) (bothHi a b)
def bothR (a b : RngX) : RngX := if bothB a b then ⟨bothLo a b, bothHi a b⟩ else rng0
def cBoth : Con := pureC (RngX × RngX) [(.rd, true), (.rd, true)] [true, false] (fun x => [x.1.ds, x.2.ds]) (fun x => [(bothR x.1 x.2).ds, [.lf (.bool (bothB x.1 x.2))]])
theorem nt_t {b : Bool} (h : (!b) = true) : b = false := by cases b <;> simp_all
theorem nt_f {b : Bool} (h : (!b) = false) : b = true := by cases b <;> simp_all
theorem any_at {α : Type} {p : α → Bool} {l : List α} {i : Nat} {y : α} (hy : l[i]? = some y) (h : p y = true) : l.any p = true := List.any_eq_true.2 ⟨y, List.mem_of_getElem? hy, h⟩
theorem any_no {α : Type} {p : α → Bool} {l : List α} (h : ∀ j y, j < l.length → l[j]? = some y → p y = false) : l.any p = false := by
  rw [List.any_eq_false]
  intro y hy
  obtain ⟨j, hj⟩ := List.getElem?_of_mem hy
  rw [h j y (List.getElem?_eq_some_iff.1 hj).1 hj]; simp
end Go.Vm
namespace Go.Vm
open Go.Proofs
set_option maxRecDepth 100000
set_option linter.unusedVariables false
set_option linter.unusedSimpArgs false

theorem ev_isNum : ∀ x, evFnX tab [(25, cWithin)] cNum Tryd.f29 (body Tryd.f29) x := by
  rintro ⟨n, h1, h2⟩
  conv => whnf
  refine ⟨⟨n, 0, 1099511627775⟩, rfl, ?_⟩
  rintro _ _ ⟨rfl, rfl⟩
  conv => whnf
  exact ⟨⟨rfl, rfl⟩⟩
theorem isNum_ok : FnOk Tryd.prog 29 cNum := fnOk_of fun x => fnX_at tab_ok (SOk.cons within_ok SOk.nil) mixed (fn := Tryd.f29) (code := body Tryd.f29) ⟨Tryd.func29, rfl, by kernel_rfl, by kernel_rfl, by kernel_rfl, by kernel_rfl⟩ (ev_isNum x)
theorem ev_iNumText : ∀ x, evFnX tab [(29, cNum)] cNumText Tryd.f21 (body Tryd.f21) x := by
  rintro ⟨n, h1, h2⟩
  conv => whnf
  refine ⟨⟨n, h1, h2⟩, rfl, ?_⟩
  rintro _ _ ⟨rfl, rfl⟩
  conv => whnf
  refine br2 (fun h3 => ?_) (fun h3 => ?_)
  · have h3' : numB n = false := by simpa using h3
    conv => whnf
    refine ⟨⟨rfl, ?_⟩⟩
    show _ = [[D.lf (.string (numT n))]]
    rw [numT_no h3']
  have h3' : numB n = true := by simpa using h3
  obtain ⟨h4, h5⟩ : 0 ≤ n ∧ n ≤ 1099511627775 := by simpa [numB] using h3'
  obtain ⟨k, rfl⟩ : ∃ k : Nat, n = k := ⟨n.toNat, by omega⟩
  conv => whnf
  refine ⟨fun m s h => ∃ (j : Nat) (t : ByteArray), numL k = numL j ++ bs t ∧ j ≤ k ∧ m = j ∧ s = [(0, .lf (.int .i64 j)), (3, .lf (.string t))] ∧ h = [],
    k, [], [(0, .lf (.int .i64 k)), (3, .lf (.string ⟨#[]⟩))], [], ⟨rfl, ⟨rfl, rfl, trivial⟩, trivial⟩, ⟨k, ⟨#[]⟩, by simp [bs], Nat.le_refl _, rfl, rfl, rfl⟩, ?_⟩
  rintro m _ _ ⟨j, t, g1, g2, rfl, rfl, rfl⟩
  have hlen := congrArg List.length g1
  have hle : (numL k).length ≤ 13 := numL_len (k := 12) (by omega)
  rw [List.length_append, bs_len] at hlen
  conv => whnf
  refine br2 (fun h6 => ?_) (fun h6 => ?_)
  · have h6' : ¬ m < 10 := by have h7 : (m : Int) > 9 := of_decide_eq_true h6; omega
    rw [numL_ge h6'] at g1
    conv => whnf
    refine ⟨[UInt8.ofNat (48 + m % 10)], by
      show [[D.lf (.int .u8 (IntKind.u8.wrap (IntKind.i64.wrap (48 + (m : Int).tmod 10))))]] = _
      rw [dig_u8 (tmod10 m) (by omega)]; rfl, ?_⟩
    conv => whnf
    refine ⟨(show 1 + t.size ≤ 4294967296 by omega), ?_⟩
    conv => whnf
    refine ⟨m / 10, [], [(0, .lf (.int .i64 (m / 10 : Nat))), (3, .lf (.string (⟨[UInt8.ofNat (48 + m % 10)].toArray⟩ ++ t)))], [], by omega, ⟨rfl, ⟨?_, rfl, trivial⟩, trivial⟩, m / 10, _, ?_, by omega, rfl, rfl, rfl⟩
    · show V.lf (.int .i64 (IntKind.i64.wrap ((m : Int).tdiv 10))) = _
      rw [tdiv10, w64 (by omega) (by omega)]
    · rw [g1]; simp [bs]
  · have h6' : m < 10 := by have h7 : ¬ (m : Int) > 9 := of_decide_eq_false h6; omega
    rw [numL_lt h6'] at g1
    conv => whnf
    refine ⟨[UInt8.ofNat (48 + m)], by
      show [[D.lf (.int .u8 (IntKind.u8.wrap (IntKind.i64.wrap (48 + (m : Int)))))]] = _
      rw [dig_u8 rfl (by omega)]; rfl, ?_⟩
    conv => whnf
    refine ⟨(show 1 + t.size ≤ 4294967296 by omega), ?_⟩
    conv => whnf
    refine ⟨⟨rfl, ?_⟩⟩
    show [[D.lf (.string (⟨[UInt8.ofNat (48 + m)].toArray⟩ ++ t))]] = [[D.lf (.string (numT (k : Int)))]]
    rw [numT_yes (by omega), g1]
    congr 4
theorem iNumText_ok : FnOk Tryd.prog 21 cNumText := fnOk_of fun x => fnX_at tab_ok (SOk.cons isNum_ok SOk.nil) mixed (fn := Tryd.f21) (code := body Tryd.f21) ⟨Tryd.func21, rfl, by kernel_rfl, by kernel_rfl, by kernel_rfl, by kernel_rfl⟩ (ev_iNumText x)
/-! Numbers read -/
def dval (l : List UInt8) : Nat := l.foldl (fun n d => n * 10 + (d.toNat - 48)) 0
theorem dval_snoc (l : List UInt8) (d : UInt8) : dval (l ++ [d]) = dval l * 10 + (d.toNat - 48) := by simp [dval]
def IsDig (d : UInt8) : Prop := 48 ≤ d.toNat ∧ d.toNat ≤ 57
theorem dig_to {k : Nat} (h : k < 10) : (UInt8.ofNat (48 + k)).toNat = 48 + k := by simp; omega
theorem numL_dig (n : Nat) : ∀ d ∈ numL n, IsDig d := by
  induction n using Nat.strongRecOn with
  | ind n ih =>
    intro d hd
    by_cases h : n < 10
    · rw [numL_lt h] at hd
      obtain rfl := List.mem_singleton.1 hd
      unfold IsDig; rw [dig_to h]; omega
    · rw [numL_ge h] at hd
      rcases List.mem_append.1 hd with hd | hd
      · exact ih (n / 10) (by omega) d hd
      · obtain rfl := List.mem_singleton.1 hd
        unfold IsDig; rw [dig_to (by omega)]; omega
theorem dval_numL (n : Nat) : dval (numL n) = n := by
  induction n using Nat.strongRecOn with
  | ind n ih =>
    by_cases h : n < 10
    · rw [numL_lt h]; show 0 * 10 + ((UInt8.ofNat (48 + n)).toNat - 48) = n; rw [dig_to h]; omega
    · rw [numL_ge h, dval_snoc, ih (n / 10) (by omega), dig_to (by omega)]; omega
theorem dval_take {l : List UInt8} {i : Nat} (h : ∀ j d, j < i → l[j]? = some d → IsDig d) (hi : i ≤ l.length) : dval (l.take i) < 10 ^ i := by
  induction i with
  | zero => simp [dval]
  | succ i ih =>
    have h1 := ih (fun j d hj => h j d (by omega)) (by omega)
    obtain ⟨d, hd⟩ := getL (l := l) (show i < l.length by omega)
    obtain ⟨d1, d2⟩ := h i d (by omega) hd
    rw [List.take_add_one, hd, Option.toList_some, dval_snoc, Nat.pow_succ]
    omega
/-- The number whose digits these are. -/
structure TextNumR (s : ByteArray) (v : Int) (ok : Bool) : Prop where
  yes : ok = true → numB v = true ∧ numT v = s
  no : ok = false → v = 0
  all : ∀ k : Nat, k ≤ 1099511627775 → ofB (numL k) = s → ok = true ∧ v = k
theorem textNum_none {s : ByteArray} (h : ∀ k : Nat, k ≤ 1099511627775 → ofB (numL k) = s → False) : TextNumR s 0 false := ⟨fun e => (by cases e), fun _ => rfl, fun k hk e => (h k hk e).elim⟩
theorem bt_bs (s : ByteArray) (i : Nat) : bt s (i : Int) = (((bs s).getD i 0).toNat : Int) := rfl
def cTextNum : Con := relC ByteArray [(.rd, false)] [false, false] (fun s => [[.lf (.string s)]]) (fun s r => ∃ v ok, r = [[.lf (.int .i64 v)], [.lf (.bool ok)]] ∧ TextNumR s v ok)
theorem ev_sTextNum : ∀ x, evFnX tab [(22, cNum), (23, cNumText)] cTextNum Tryd.f13 (body Tryd.f13) x := by
  intro (s : ByteArray)
  conv => whnf
  refine br2 (fun h1 => ?_) (fun h1 => ?_)
  · have h2 : (s.size : Int) < 1 := of_decide_eq_true h1
    conv => whnf
    exact ⟨⟨rfl, 0, false, rfl, textNum_none fun k hk e => by have := numL_pos k; rw [← e, of_size] at h2; omega⟩⟩
  have h2 : ¬ (s.size : Int) < 1 := of_decide_eq_false h1
  conv => whnf
  refine br2 (fun h3 => ?_) (fun h3 => ?_)
  · have h4 : (s.size : Int) > 13 := of_decide_eq_true h3
    conv => whnf
    exact ⟨⟨rfl, 0, false, rfl, textNum_none fun k hk e => by have := numL_len (n := k) (k := 12) (by omega); rw [← e, of_size] at h4; omega⟩⟩
  have h4 : ¬ (s.size : Int) > 13 := of_decide_eq_false h3
  conv => whnf
  refine ⟨fun m st h => ∃ (i : Nat), i ≤ s.size ∧ (∀ j d, j < i → (bs s)[j]? = some d → IsDig d) ∧ m = s.size - i ∧ st = [(0, .lf (.string s)), (4, .lf (.int .i64 (dval ((bs s).take i)))), (5, .lf (.int .i64 i))] ∧ h = [],
    s.size, [], [(0, .lf (.string s)), (4, .lf (.int .i64 0)), (5, .lf (.int .i64 0))], [], ⟨rfl, ⟨rfl, rfl, rfl, trivial⟩, trivial⟩, ⟨0, by omega, fun j d h => by omega, by omega, rfl, rfl⟩, ?_⟩
  rintro m _ _ ⟨i, g1, g2, rfl, rfl, rfl⟩
  have hbs : (bs s).length = s.size := bs_len s
  have hv := dval_take g2 (by omega)
  have hp : 10 ^ i ≤ 10 ^ 13 := Nat.pow_le_pow_right (by omega) (by omega)
  conv => whnf
  refine br2 (fun h5 => ?_) (fun h5 => ?_)
  · have hi : i < s.size := by have h6 : (i : Int) < (s.size : Int) := of_decide_eq_true h5; omega
    have hlt : (i : Int) < (s.size : Int) := by omega
    obtain ⟨d, hd⟩ := getL (l := bs s) (show i < (bs s).length by omega)
    have hb : bt s (i : Int) = (d.toNat : Int) := by rw [bt_bs, List.getD_eq_getElem?_getD, hd]; rfl
    have bad : ¬ IsDig d → TextNumR s 0 false := fun hn => textNum_none fun k hk e => by
      have e2 : bs s = numL k := by rw [← e, bs_of]
      exact hn (numL_dig k d (by rw [← e2]; exact List.mem_of_getElem? hd))
    conv => whnf
    refine ⟨Int.natCast_nonneg _, hlt, ?_⟩
    conv => whnf
    refine br2 (fun h6 => ?_) (fun h6 => ?_)
    · have h7 : bt s (i : Int) < 48 := of_decide_eq_true h6
      conv => whnf
      exact ⟨⟨rfl, 0, false, rfl, bad fun h => by have := h.1; omega⟩⟩
    have h7 : ¬ bt s (i : Int) < 48 := of_decide_eq_false h6
    conv => whnf
    refine ⟨Int.natCast_nonneg _, hlt, ?_⟩
    conv => whnf
    refine br2 (fun h8 => ?_) (fun h8 => ?_)
    · have h9 : bt s (i : Int) > 57 := of_decide_eq_true h8
      conv => whnf
      exact ⟨⟨rfl, 0, false, rfl, bad fun h => by have := h.2; omega⟩⟩
    have h9 : ¬ bt s (i : Int) > 57 := of_decide_eq_false h8
    have hdig : IsDig d := ⟨by omega, by omega⟩
    conv => whnf
    refine ⟨Int.natCast_nonneg _, hlt, ?_⟩
    conv => whnf
    refine ⟨s.size - (i + 1), [], [(0, .lf (.string s)), (4, .lf (.int .i64 (dval ((bs s).take (i + 1))))), (5, .lf (.int .i64 ((i + 1 : Nat) : Int)))], [], by omega, ⟨rfl, ⟨rfl, ?_, ?_, trivial⟩, trivial⟩, i + 1, by omega, fun j d' hj hd' => ?_, rfl, rfl, rfl⟩
    · show V.lf (.int .i64 (IntKind.i64.wrap (IntKind.i64.wrap ((dval ((bs s).take i) : Int) * 10) + IntKind.i64.wrap (IntKind.u8.wrap (bt s (i : Int) - 48))))) = _
      have e1 : IntKind.u8.wrap (bt s (i : Int) - 48) = bt s (i : Int) - 48 := by
        rw [w8]; unfold b8; simp; omega
      have e2 : dval ((bs s).take (i + 1)) = dval ((bs s).take i) * 10 + (d.toNat - 48) := by rw [List.take_add_one, hd, Option.toList_some, dval_snoc]
      rw [e1, hb, e2, w64 (n := (d.toNat : Int) - 48) (by omega) (by omega), w64 (n := (dval ((bs s).take i) : Int) * 10) (by omega) (by omega), w64 (by omega) (by omega)]
      congr 3; omega
    · show V.lf (.int .i64 (IntKind.i64.wrap ((i : Int) + 1))) = _
      rw [w64 (by omega) (by omega)]; rfl
    · rcases Nat.lt_or_ge j i with h10 | h10
      · exact g2 j d' h10 hd'
      · obtain rfl : j = i := by omega
        rw [hd] at hd'; cases hd'; exact hdig
  obtain rfl : i = s.size := by have h6 : ¬ (i : Int) < (s.size : Int) := of_decide_eq_false h5; omega
  rw [List.take_of_length_le (by omega)] at *
  have val : ∀ k, ofB (numL k) = s → dval (bs s) = k := fun k e => by rw [← e, bs_of, dval_numL]
  generalize hn : dval (bs s) = n at *
  conv => whnf
  refine ⟨⟨n, by omega, by omega⟩, rfl, ?_⟩
  rintro _ _ ⟨rfl, rfl⟩
  conv => whnf
  refine br2 (fun h6 => ?_) (fun h6 => ?_)
  · replace h6 : (!numB (n : Int)) = true := h6
    rw [Bool.not_eq_true'] at h6
    conv => whnf
    exact ⟨⟨rfl, 0, false, rfl, textNum_none fun k hk e => by rw [val k e] at h6; simp [numB] at h6; omega⟩⟩
  replace h6 : (!numB (n : Int)) = false := h6
  rw [Bool.not_eq_false'] at h6
  conv => whnf
  refine ⟨⟨n, by omega, by omega⟩, rfl, ?_⟩
  rintro _ _ ⟨rfl, rfl⟩
  conv => whnf
  refine br2 (fun h7 => ?_) (fun h7 => ?_)
  · replace h7 : (!strEq (numT (n : Int)) s) = true := h7
    rw [Bool.not_eq_true', strEq_no] at h7
    conv => whnf
    exact ⟨⟨rfl, 0, false, rfl, textNum_none fun k hk e => h7 (by rw [val k e, numT_yes hk, e])⟩⟩
  · replace h7 : (!strEq (numT (n : Int)) s) = false := h7
    rw [Bool.not_eq_false', strEq_iff] at h7
    have h8 : numB (n : Int) = true := h6
    conv => whnf
    exact ⟨⟨rfl, (n : Int), true, rfl, fun _ => ⟨h8, h7⟩, fun h => (by cases h), fun k hk e => ⟨rfl, by rw [val k e]⟩⟩⟩
theorem sTextNum_ok : FnOk Tryd.prog 13 cTextNum := fnOk_of fun x => fnX_at tab_ok (SOk.cons l01Num_ok (SOk.cons sNumText_ok SOk.nil)) mixed (fn := Tryd.f13) (code := body Tryd.f13) ⟨Tryd.func13, rfl, by kernel_rfl, by kernel_rfl, by kernel_rfl, by kernel_rfl⟩ (ev_sTextNum x)
theorem ev_iTextNum : ∀ x, evFnX tab [(25, cWithin), (21, cNumText)] cTextNum Tryd.f16 (body Tryd.f16) x := by
  intro (s : ByteArray)
  conv => whnf
  refine ⟨⟨s.size, 1, 13⟩, rfl, ?_⟩
  rintro _ _ ⟨rfl, rfl⟩
  conv => whnf
  refine br2 (fun h1 => ?_) (fun h1 => ?_)
  · have h2 : ¬ (1 ≤ (s.size : Int) ∧ (s.size : Int) ≤ 13) := by
      replace h1 : (!(decide (1 ≤ (s.size : Int)) && decide ((s.size : Int) ≤ 13))) = true := h1
      intro h; rw [decide_eq_true h.1, decide_eq_true h.2] at h1; cases h1
    conv => whnf
    exact ⟨⟨rfl, 0, false, rfl, textNum_none fun k hk e => by
      have h3 := numL_len (n := k) (k := 12) (by omega)
      have h4 := numL_pos k
      rw [← e, of_size] at h2; omega⟩⟩
  have h4 : 1 ≤ (s.size : Int) ∧ (s.size : Int) ≤ 13 := by
    replace h1 : (!(decide (1 ≤ (s.size : Int)) && decide ((s.size : Int) ≤ 13))) = false := h1
    simpa using h1
  conv => whnf
  refine ⟨fun m st h => ∃ (i : Nat), i ≤ s.size ∧ (∀ j d, j < i → (bs s)[j]? = some d → IsDig d) ∧ m = s.size - i ∧ st = [(0, .lf (.string s)), (4, .lf (.int .i64 (dval ((bs s).take i)))), (5, .lf (.int .i64 i))] ∧ h = [],
    s.size, [], [(0, .lf (.string s)), (4, .lf (.int .i64 0)), (5, .lf (.int .i64 0))], [], ⟨rfl, ⟨rfl, rfl, rfl, trivial⟩, trivial⟩, ⟨0, by omega, fun j d h => by omega, by omega, rfl, rfl⟩, ?_⟩
  rintro m _ _ ⟨i, g1, g2, rfl, rfl, rfl⟩
  have hbs : (bs s).length = s.size := bs_len s
  have hv := dval_take g2 (by omega)
  have hp : 10 ^ i ≤ 10 ^ 13 := Nat.pow_le_pow_right (by omega) (by omega)
  conv => whnf
  refine br2 (fun h5 => ?_) (fun h5 => ?_)
  · have hi : i < s.size := by have h6 : (i : Int) < (s.size : Int) := of_decide_eq_true h5; omega
    have hlt : (i : Int) < (s.size : Int) := by omega
    obtain ⟨d, hd⟩ := getL (l := bs s) (show i < (bs s).length by omega)
    have hb : bt s (i : Int) = (d.toNat : Int) := by rw [bt_bs, List.getD_eq_getElem?_getD, hd]; rfl
    have bad : ¬ IsDig d → TextNumR s 0 false := fun hn => textNum_none fun k hk e => by
      have e2 : bs s = numL k := by rw [← e, bs_of]
      exact hn (numL_dig k d (by rw [← e2]; exact List.mem_of_getElem? hd))
    conv => whnf
    refine ⟨Int.natCast_nonneg _, hlt, ?_⟩
    conv => whnf
    refine br2 (fun h6 => ?_) (fun h6 => ?_)
    · have h7 : bt s (i : Int) < 48 := of_decide_eq_true h6
      conv => whnf
      exact ⟨⟨rfl, 0, false, rfl, bad fun h => by have := h.1; omega⟩⟩
    have h7 : ¬ bt s (i : Int) < 48 := of_decide_eq_false h6
    conv => whnf
    refine ⟨Int.natCast_nonneg _, hlt, ?_⟩
    conv => whnf
    refine br2 (fun h8 => ?_) (fun h8 => ?_)
    · have h9 : bt s (i : Int) > 57 := of_decide_eq_true h8
      conv => whnf
      exact ⟨⟨rfl, 0, false, rfl, bad fun h => by have := h.2; omega⟩⟩
    have h9 : ¬ bt s (i : Int) > 57 := of_decide_eq_false h8
    have hdig : IsDig d := ⟨by omega, by omega⟩
    conv => whnf
    refine ⟨Int.natCast_nonneg _, hlt, ?_⟩
    conv => whnf
    refine ⟨s.size - (i + 1), [], [(0, .lf (.string s)), (4, .lf (.int .i64 (dval ((bs s).take (i + 1))))), (5, .lf (.int .i64 ((i + 1 : Nat) : Int)))], [], by omega, ⟨rfl, ⟨rfl, ?_, ?_, trivial⟩, trivial⟩, i + 1, by omega, fun j d' hj hd' => ?_, rfl, rfl, rfl⟩
    · show V.lf (.int .i64 (IntKind.i64.wrap (IntKind.i64.wrap (10 * (dval ((bs s).take i) : Int)) + IntKind.i64.wrap (IntKind.u8.wrap (bt s (i : Int) - 48))))) = _
      have e1 : IntKind.u8.wrap (bt s (i : Int) - 48) = bt s (i : Int) - 48 := by
        rw [w8]; unfold b8; simp; omega
      have e2 : dval ((bs s).take (i + 1)) = dval ((bs s).take i) * 10 + (d.toNat - 48) := by rw [List.take_add_one, hd, Option.toList_some, dval_snoc]
      rw [e1, hb, e2, w64 (n := (d.toNat : Int) - 48) (by omega) (by omega), w64 (n := 10 * (dval ((bs s).take i) : Int)) (by omega) (by omega), w64 (by omega) (by omega)]
      congr 3; omega
    · show V.lf (.int .i64 (IntKind.i64.wrap ((i : Int) + 1))) = _
      rw [w64 (by omega) (by omega)]; rfl
    · rcases Nat.lt_or_ge j i with h10 | h10
      · exact g2 j d' h10 hd'
      · obtain rfl : j = i := by omega
        rw [hd] at hd'; cases hd'; exact hdig
  obtain rfl : i = s.size := by have h6 : ¬ (i : Int) < (s.size : Int) := of_decide_eq_false h5; omega
  rw [List.take_of_length_le (by omega)] at *
  have val : ∀ k, ofB (numL k) = s → dval (bs s) = k := fun k e => by rw [← e, bs_of, dval_numL]
  generalize hn : dval (bs s) = n at *
  conv => whnf
  refine ⟨⟨n, by omega, by omega⟩, rfl, ?_⟩
  rintro _ _ ⟨rfl, rfl⟩
  conv => whnf
  refine br2 (fun h7 => ?_) (fun h7 => ?_)
  · replace h7 : (!strEq (numT (n : Int)) s) = true := h7
    rw [Bool.not_eq_true', strEq_no] at h7
    conv => whnf
    exact ⟨⟨rfl, 0, false, rfl, textNum_none fun k hk e => h7 (by rw [val k e, numT_yes hk, e])⟩⟩
  · replace h7 : (!strEq (numT (n : Int)) s) = false := h7
    rw [Bool.not_eq_false', strEq_iff] at h7
    have h8 : numB (n : Int) = true := by
      cases h9 : numB (n : Int) with
      | true => rfl
      | false => rw [numT_no h9] at h7; rw [← h7] at h4; revert h4; decide
    conv => whnf
    exact ⟨⟨rfl, (n : Int), true, rfl, fun _ => ⟨h8, h7⟩, fun h => (by cases h), fun k hk e => ⟨rfl, by rw [val k e]⟩⟩⟩
theorem iTextNum_ok : FnOk Tryd.prog 16 cTextNum := fnOk_of fun x => fnX_at tab_ok (SOk.cons within_ok (SOk.cons iNumText_ok SOk.nil)) mixed (fn := Tryd.f16) (code := body Tryd.f16) ⟨Tryd.func16, rfl, by kernel_rfl, by kernel_rfl, by kernel_rfl, by kernel_rfl⟩ (ev_iTextNum x)
end Go.Vm
namespace Go.Vm
open Go.Proofs
set_option maxRecDepth 100000
set_option linter.unusedVariables false
set_option linter.unusedSimpArgs false

/-- The parts of a list between the elements that are c. -/
def parts (c : UInt8) : List UInt8 → List (List UInt8)
  | [] => [[]]
  | d :: l => if d = c then [] :: parts c l else match parts c l with
    | p :: r => (d :: p) :: r
    | [] => [[d]]
theorem parts_ne (c : UInt8) (l : List UInt8) : parts c l ≠ [] := by
  cases l with
  | nil => simp [parts]
  | cons d l => unfold parts; split; simp; split <;> simp
/-- What is cut so far, and what is not yet closed. -/
theorem parts_snoc (c : UInt8) (l : List UInt8) (d : UInt8) : ∃ (r : List (List UInt8)) (p : List UInt8), parts c l = r ++ [p] ∧ parts c (l ++ [d]) = if d = c then r ++ [p, []] else r ++ [p ++ [d]] := by
  induction l with
  | nil =>
    refine ⟨[], [], rfl, ?_⟩
    by_cases h : d = c <;> simp [parts, h]
  | cons a l ih =>
    obtain ⟨r, p, h1, h2⟩ := ih
    by_cases ha : a = c
    · refine ⟨[] :: r, p, by simp [parts, ha, h1], ?_⟩
      rw [List.cons_append, parts, if_pos ha, h2]
      split <;> simp
    · cases r with
      | nil =>
        refine ⟨[], a :: p, by simp [parts, ha, h1], ?_⟩
        rw [List.cons_append, parts, if_neg ha, h2]
        by_cases h : d = c <;> simp [h]
      | cons q r =>
        refine ⟨(a :: q) :: r, p, by simp [parts, ha, h1], ?_⟩
        rw [List.cons_append, parts, if_neg ha, h2]
        by_cases h : d = c <;> simp [h]
theorem parts_plain {c : UInt8} {l : List UInt8} (h : ∀ d ∈ l, d ≠ c) : parts c l = [l] := by
  induction l with
  | nil => rfl
  | cons d l ih =>
    rw [parts, if_neg (h d (List.mem_cons_self ..)), ih fun x hx => h x (List.mem_cons_of_mem _ hx)]
theorem parts_cut {c : UInt8} {l m : List UInt8} (h : ∀ d ∈ l, d ≠ c) : parts c (l ++ c :: m) = l :: parts c m := by
  induction l with
  | nil => simp [parts]
  | cons d l ih =>
    rw [List.cons_append, parts, if_neg (h d (List.mem_cons_self ..)), ih fun x hx => h x (List.mem_cons_of_mem _ hx)]
def partsT (s : ByteArray) : List ByteArray := (parts 46 (bs s)).map ofB
end Go.Vm
namespace Go.Vm
open Go.Proofs
set_option maxRecDepth 100000
set_option linter.unusedVariables false
set_option linter.unusedSimpArgs false

theorem cut_eq {s : ByteArray} {f i : Nat} : ofB (((bs s).take i).drop f) = s.extract f i := by
  apply ByteArray.ext
  apply Array.ext'
  simp [ofB, bs, List.drop_take]
def encS (s : ByteArray) : List D := [.lf (.string s)]
structure SplX where
  s : ByteArray
  h : s.size ≤ 1048576
def cParts : Con := pureC SplX [(.rd, false), (.rd, false)] [false] (fun x => [[.lf (.string x.s)], [.lf (.int .u8 46)]]) (fun x => [[.row 1 encS (partsT x.s)]])
theorem ev_l07Parts : ∀ x, evFnX tab [(1000003, cGh)] cParts Tryd.f12 (body Tryd.f12) x := by
  rintro ⟨s, hs⟩
  have hbs : (bs s).length = s.size := bs_len s
  conv => whnf
  refine ⟨[.row 128], ?_⟩
  conv => whnf
  refine ⟨ByteArray, encS, [], fun _ => rfl, rfl, ?_⟩
  conv => whnf
  let S (i f : Nat) : Sl := [(7, .lf (.int .i64 i)), (6, .lf (.int .i64 f)), (5, .sl 128 none), (1, .lf (.int .u8 46)), (0, .lf (.string s))]
  let H (r : List ByteArray) : Hp := [(128, some (.row .own 1 encS r))]
  refine ⟨fun m st h => ∃ (i f : Nat) (r : List (List UInt8)), i ≤ s.size ∧ f ≤ i ∧ r.length ≤ i ∧ parts 46 ((bs s).take i) = r ++ [((bs s).take i).drop f] ∧ m = s.size - i ∧ st = S i f ∧ h = H (r.map ofB),
    s.size, [(128, 128)], S 0 0, H [], ⟨rfl, ⟨rfl, rfl, rfl, rfl, rfl, trivial⟩, rfl, trivial⟩, ⟨0, 0, [], by omega, by omega, by simp, rfl, by omega, rfl, rfl⟩, ?_⟩
  rintro m _ _ ⟨i, f, r, g1, g2, g3, g4, rfl, rfl, rfl⟩
  have hw : ∀ {k : Nat}, k ≤ 1048576 → V.lf (.int .i64 (IntKind.i64.wrap ((k : Int) + 1))) = V.lf (.int .i64 ((k + 1 : Nat) : Int)) := fun h => by rw [w64 (by omega) (by omega)]; rfl
  conv => whnf
  refine br2 (fun h5 => ?_) (fun h5 => ?_)
  · have hi : i < s.size := by have h6 : (i : Int) < (s.size : Int) := of_decide_eq_true h5; omega
    have hlt : (i : Int) < (s.size : Int) := by omega
    obtain ⟨d, hd⟩ := getL (l := bs s) (show i < (bs s).length by omega)
    have hb : bt s (i : Int) = (d.toNat : Int) := by rw [bt_bs, List.getD_eq_getElem?_getD, hd]; rfl
    obtain ⟨r', p', e1, e2⟩ := parts_snoc 46 ((bs s).take i) d
    rw [g4] at e1
    obtain ⟨rfl, e3⟩ := List.append_inj' e1 rfl
    obtain rfl : ((bs s).take i).drop f = p' := by simpa using e3
    have htk : (bs s).take (i + 1) = (bs s).take i ++ [d] := by rw [List.take_add_one, hd]; rfl
    rw [← htk] at e2
    conv => whnf
    refine ⟨Int.natCast_nonneg _, hlt, ?_⟩
    conv => whnf
    refine br2 (fun h6 => ?_) (fun h6 => ?_)
    · have h7 : d = 46 := by
        have h8 : bt s (i : Int) = 46 := eq_of_beq h6
        exact UInt8.toNat_inj.1 (by show d.toNat = 46; omega)
      rw [if_pos h7] at e2
      conv => whnf
      refine ⟨Int.natCast_nonneg _, Int.ofNat_le.2 g2, Int.ofNat_le.2 g1, ?_⟩
      conv => whnf
      refine ⟨[s.extract f i], rfl, ?_, ?_⟩
      · show (r.map ofB).length + 1 ≤ 4294967296
        rw [List.length_map]; omega
      conv => whnf
      refine ⟨s.size - (i + 1), [(416, 128)], S (i + 1) (i + 1), H (r.map ofB ++ [s.extract f i]), by omega, ⟨rfl, ⟨hw (by omega), hw (by omega), rfl, rfl, rfl, trivial⟩, by rfl, trivial⟩, i + 1, i + 1, r ++ [((bs s).take i).drop f], by omega, by omega, by simp; omega, ?_, rfl, rfl, ?_⟩
      · rw [e2, List.drop_of_length_le (show ((bs s).take (i + 1)).length ≤ i + 1 by rw [List.length_take]; omega)]; simp
      · rw [List.map_append, List.map_singleton, cut_eq]
    · have h7 : d ≠ 46 := by
        intro e
        replace h6 : (bt s (i : Int) == 46) = false := h6
        rw [hb, e] at h6; simp at h6
      rw [if_neg h7] at e2
      conv => whnf
      refine ⟨s.size - (i + 1), [(128, 128)], S (i + 1) f, H (r.map ofB), by omega, ⟨rfl, ⟨hw (by omega), rfl, rfl, rfl, rfl, trivial⟩, rfl, trivial⟩, i + 1, f, r, by omega, by omega, by omega, ?_, rfl, rfl, rfl⟩
      rw [e2, htk, List.drop_append_of_le_length (by rw [List.length_take]; omega)]
  have hi : i = s.size := by have h6 : ¬ (i : Int) < (s.size : Int) := of_decide_eq_false h5; omega
  subst hi
  rw [List.take_of_length_le (by omega)] at g4
  conv => whnf
  refine ⟨Int.natCast_nonneg _, Int.ofNat_le.2 g2, Int.le_refl _, ?_⟩
  conv => whnf
  refine ⟨[s.extract f s.size], rfl, ?_, ?_⟩
  · show (r.map ofB).length + 1 ≤ 4294967296
    rw [List.length_map]; omega
  conv => whnf
  refine ⟨⟨rfl, ?_⟩⟩
  show [[D.row 1 encS (r.map ofB ++ [s.extract f s.size])]] = [[D.row 1 encS (partsT s)]]
  rw [partsT, g4, List.map_append, List.map_singleton, ← cut_eq (i := s.size), List.take_of_length_le (by omega)]
theorem l07Parts_ok : FnOk Tryd.prog 12 cParts := fnOk_of fun x => fnX_at tab_ok (SOk.cons gh_ok SOk.nil) mixed (fn := Tryd.f12) (code := body Tryd.f12) ⟨Tryd.func12, rfl, by kernel_rfl, by kernel_rfl, by kernel_rfl, by kernel_rfl⟩ (ev_l07Parts x)
end Go.Vm
namespace Go.Vm
open Go.Proofs
set_option maxRecDepth 100000
set_option linter.unusedVariables false
set_option linter.unusedSimpArgs false

theorem args2 {w : World} {R Kp : Nat → Prop} {a b : Value} : ∀ {args : List Value} {Fs : List (Nat → Prop)}, ArgsR w R Kp [(.rd, false), (.rd, false)] [[.lf a], [.lf b]] args Fs → args = [a, b]
  | [x, y], [F, G], h => by
    obtain ⟨⟨cs, hc, hl, A, g1, g2, g3⟩, ⟨cs', hc', hl', A', g1', g2', g3'⟩, _⟩ := h
    have e1 : cs = [x] := hc.1
    have e2 : cs' = [y] := hc'.1
    subst e1 e2
    have h1 := (g1 0 (Nat.zero_lt_one)).1
    have h2 := (g1' 0 (Nat.zero_lt_one)).1
    have h3 : x = a := (Ro.lf_inv h1).1
    have h4 : y = b := (Ro.lf_inv h2).1
    rw [h3, h4]
  | [], _, h => h.elim
  | [_], [], h => h.elim
  | [_], _ :: _, h => h.2.elim
  | _ :: _ :: _, [], h => h.elim
  | _ :: _ :: _, [_], h => h.2.elim
  | _ :: _ :: _ :: _, _ :: _ :: _, h => h.2.2.elim
  | [_, _], _ :: _ :: _ :: _, h => h.2.2.elim
theorem one_sc {v : Value} (h : isSc v = true) : v.oneCell' = true := by
  cases v <;> first | rfl | (revert h; decide) | simp_all [isSc]
theorem extern2 {P : Program} {f : FuncId} {X : Type} {a b r : X → Value} (hsc : ∀ x, isSc (r x) = true) (h : ∀ x w, (callFunc f #[a x, b x]).run P w = .ok (.value (r x)) w) :
    FnOk P f (pureC X [(.rd, false), (.rd, false)] [false] (fun x => [[.lf (a x)], [.lf (b x)]]) (fun x => [[.lf (r x)]])) := by
  intro x w args R Kp Fs ha _ _ _ _
  obtain rfl := args2 ha
  refine .inr ⟨r x, w, h x w, [], [[.lf (r x)]], fun _ => False, [r x], [fun _ => False], [], ⟨rfl, rfl⟩, Shape.refl w, fun _ _ _ => rfl, fun _ h => h.elim, ?_, rfl, trivial, ?_, ?_, ?_⟩
  · refine ⟨⟨[r x], ⟨rfl, one_sc (hsc x)⟩, rfl, fun _ _ => False, fun f hf => ?_, ?_, ?_⟩, trivial⟩
    · obtain rfl : f = 0 := by simp at hf; omega
      exact Own.lf (hsc x) (fun _ h => h)
    · intro i j _ _ _ x h; exact h.elim
    · intro x; exact ⟨fun h => h.elim, fun ⟨_, _, h⟩ => h⟩
  · exact List.pairwise_singleton _ _
  · rintro y ⟨F, hF, hy⟩
    simp at hF
    subst hF; exact hy.elim
  · rintro y ⟨F, hF, hy⟩
    simp at hF
    subst hF; exact hy.elim
def cnt (s : ByteArray) : Int := ((bs s).count 46 : Nat)
def idx (s : ByteArray) : Int := Lib.indexByte (bs s) 46
def cCnt : Con := pureC ByteArray [(.rd, false), (.rd, false)] [false] (fun s => [[.lf (.string s)], [.lf (.int .u8 46)]]) (fun s => [[.lf (.int .i64 (cnt s))]])
def cIdx : Con := pureC ByteArray [(.rd, false), (.rd, false)] [false] (fun s => [[.lf (.string s)], [.lf (.int .u8 46)]]) (fun s => [[.lf (.int .i64 (idx s))]])
def cCntS : Con := pureC ByteArray [(.rd, false), (.rd, false)] [false] (fun s => [[.lf (.string s)], [.lf (.string ⟨#[46]⟩)]]) (fun s => [[.lf (.int .i64 (cnt s))]])
def cIdxS : Con := pureC ByteArray [(.rd, false), (.rd, false)] [false] (fun s => [[.lf (.string s)], [.lf (.string ⟨#[46]⟩)]]) (fun s => [[.lf (.int .i64 (idx s))]])
theorem count_run (s : ByteArray) (w : World) : (callFunc 35 #[.string s, .int .u8 46]).run Tryd.prog w = .ok (.value (.int .i64 (cnt s))) w := by
  rw [run_callFunc_extern (fn := Tryd.f35) (by kernel_rfl) (by kernel_rfl) (by kernel_rfl) (by kernel_rfl) (e := Extern.BytealgCount.count) (by kernel_rfl), Lib.run_countString]
  rfl
theorem index_run (s : ByteArray) (w : World) : (callFunc 42 #[.string s, .int .u8 46]).run Tryd.prog w = .ok (.value (.int .i64 (idx s))) w := by
  rw [run_callFunc_extern (fn := Tryd.f42) (by kernel_rfl) (by kernel_rfl) (by kernel_rfl) (by kernel_rfl) (e := Extern.BytealgIndexByte.indexByte) (by kernel_rfl), Lib.run_indexByteString]
  rfl
theorem countS_ok : FnOk Tryd.prog 35 cCnt := extern2 (a := fun s => .string s) (b := fun _ => .int .u8 46) (r := fun s => .int .i64 (cnt s)) (fun _ => rfl) count_run
theorem indexBS_ok : FnOk Tryd.prog 42 cIdx := extern2 (a := fun s => .string s) (b := fun _ => .int .u8 46) (r := fun s => .int .i64 (idx s)) (fun _ => rfl) index_run
theorem ev_indexB : ∀ x, evFnX tab [(42, cIdx)] cIdx Tryd.f38 (body Tryd.f38) x := by
  intro (s : ByteArray)
  conv => whnf
  refine ⟨s, rfl, ?_⟩
  rintro _ _ ⟨rfl, rfl⟩
  conv => whnf
  exact ⟨⟨rfl, rfl⟩⟩
theorem indexB_ok : FnOk Tryd.prog 38 cIdx := fnOk_of fun x => fnX_at tab_ok (SOk.cons indexBS_ok SOk.nil) mixed (fn := Tryd.f38) (code := body Tryd.f38) ⟨Tryd.func38, rfl, by kernel_rfl, by kernel_rfl, by kernel_rfl, by kernel_rfl⟩ (ev_indexB x)
theorem ev_count : ∀ x, evFnX tab [(35, cCnt)] cCntS Tryd.f31 (body Tryd.f31) x := by
  intro (s : ByteArray)
  conv => whnf
  refine ⟨by decide, by decide, ?_⟩
  conv => whnf
  refine ⟨s, rfl, ?_⟩
  rintro _ _ ⟨rfl, rfl⟩
  conv => whnf
  exact ⟨⟨rfl, rfl⟩⟩
theorem count_ok : FnOk Tryd.prog 31 cCntS := fnOk_of fun x => fnX_at tab_ok (SOk.cons countS_ok SOk.nil) mixed (fn := Tryd.f31) (code := body Tryd.f31) ⟨Tryd.func31, rfl, by kernel_rfl, by kernel_rfl, by kernel_rfl, by kernel_rfl⟩ (ev_count x)
theorem ev_index0 : ∀ x, evFnX tab [(38, cIdx)] cIdxS Tryd.f36 (body Tryd.f36) x := by
  intro (s : ByteArray)
  conv => whnf
  refine br2 (fun h => ?_) (fun _ => ?_)
  · have h2 : ⟨#[46]⟩ = s := strEq_iff.1 h
    conv => whnf
    refine ⟨⟨rfl, ?_⟩⟩
    show _ = [[D.lf (.int .i64 (idx s))]]
    rw [← h2]; rfl
  conv => whnf
  refine ⟨by decide, by decide, ?_⟩
  conv => whnf
  refine ⟨s, rfl, ?_⟩
  rintro _ _ ⟨rfl, rfl⟩
  conv => whnf
  exact ⟨⟨rfl, rfl⟩⟩
theorem index0_ok : FnOk Tryd.prog 36 cIdxS := fnOk_of fun x => fnX_at tab_ok (SOk.cons indexB_ok SOk.nil) mixed (fn := Tryd.f36) (code := body Tryd.f36) ⟨Tryd.func36, rfl, by kernel_rfl, by kernel_rfl, by kernel_rfl, by kernel_rfl⟩ (ev_index0 x)
theorem ev_index : ∀ x, evFnX tab [(36, cIdxS)] cIdxS Tryd.f32 (body Tryd.f32) x := by
  intro (s : ByteArray)
  conv => whnf
  refine ⟨s, rfl, ?_⟩
  rintro _ _ ⟨rfl, rfl⟩
  conv => whnf
  exact ⟨⟨rfl, rfl⟩⟩
theorem index_ok : FnOk Tryd.prog 32 cIdxS := fnOk_of fun x => fnX_at tab_ok (SOk.cons index0_ok SOk.nil) mixed (fn := Tryd.f32) (code := body Tryd.f32) ⟨Tryd.func32, rfl, by kernel_rfl, by kernel_rfl, by kernel_rfl, by kernel_rfl⟩ (ev_index x)
/-- Where the byte stands first. -/
theorem idx_hit {l : List UInt8} : ∀ {m : Nat}, Lib.indexByte l 46 = (m : Int) → m < l.length ∧ l = l.take m ++ 46 :: l.drop (m + 1) ∧ ∀ d ∈ l.take m, d ≠ 46 := by
  induction l with
  | nil => intro m h; have h' : (-1 : Int) = (m : Int) := h; omega
  | cons d l ih =>
    intro m h
    unfold Lib.indexByte at h
    by_cases hd : d = 46
    · rw [if_pos (by simp [hd])] at h
      obtain rfl : m = 0 := by omega
      subst hd
      exact ⟨by simp, rfl, by simp⟩
    · rw [if_neg (by simp [hd])] at h
      have hg := Lib.indexByte_ge l 46
      by_cases h1 : (Lib.indexByte l 46 == -1) = true
      · rw [if_pos h1] at h; omega
      · rw [if_neg h1] at h
        have h2 : Lib.indexByte l 46 ≠ -1 := fun e => h1 (by rw [e]; rfl)
        obtain ⟨k, rfl⟩ : ∃ k, m = k + 1 := ⟨m - 1, by omega⟩
        obtain ⟨a1, a2, a3⟩ := ih (m := k) (by omega)
        refine ⟨by simp; omega, ?_, ?_⟩
        · rw [List.take_succ_cons, List.drop_succ_cons, List.cons_append, ← a2]
        · intro x hx
          rw [List.take_succ_cons] at hx
          rcases List.mem_cons.1 hx with rfl | hx
          · exact hd
          · exact a3 x hx
theorem idx_miss {l : List UInt8} (h : Lib.indexByte l 46 < 0) : l.count 46 = 0 := by
  induction l with
  | nil => rfl
  | cons d l ih =>
    unfold Lib.indexByte at h
    by_cases hd : d = 46
    · rw [if_pos (by simp [hd])] at h; omega
    · rw [if_neg (by simp [hd])] at h
      by_cases h1 : (Lib.indexByte l 46 == -1) = true
      · have h2 : Lib.indexByte l 46 = -1 := eq_of_beq h1
        rw [List.count_cons_of_ne (by simpa using hd)]
        exact ih (by omega)
      · rw [if_neg h1] at h
        have hg := Lib.indexByte_ge l 46
        have h2 : Lib.indexByte l 46 ≠ -1 := fun e => h1 (by rw [e]; rfl)
        omega
def cGen : Con := pureC SplX [(.rd, false), (.rd, false), (.rd, false), (.rd, false)] [false] (fun x => [[.lf (.string x.s)], [.lf (.string ⟨#[46]⟩)], [.lf (.int .i64 0)], [.lf (.int .i64 (-1))]]) (fun x => [[.row 1 encS (partsT x.s)]])
theorem ev_genSplit : ∀ x, evFnX tab [(31, cCntS), (32, cIdxS)] cGen Tryd.f24 (body Tryd.f24) x := by
  rintro ⟨s, hs⟩
  conv => whnf
  refine br2 (fun h => absurd (strEq_iff.1 h) (by decide)) (fun _ => ?_)
  conv => whnf
  refine ⟨s, rfl, ?_⟩
  rintro _ _ ⟨rfl, rfl⟩
  conv => whnf
  have hbs : (bs s).length = s.size := bs_len s
  obtain ⟨c, hc⟩ : ∃ c, (bs s).count 46 = c := ⟨_, rfl⟩
  have hc1 : c ≤ s.size := by rw [← hc, ← hbs]; exact List.count_le_length
  have e0 : cnt s = (c : Int) := by unfold cnt; rw [hc]
  have eN : (if IntKind.i64.wrap ((s.size : Int) + 1) < IntKind.i64.wrap (cnt s + 1) then IntKind.i64.wrap ((s.size : Int) + 1) else IntKind.i64.wrap (cnt s + 1)) = ((c + 1 : Nat) : Int) := by
    rw [e0, w64 (by omega) (by omega), w64 (by omega) (by omega)]
    split <;> omega
  refine ⟨?_, rfl, ?_, ByteArray, encS, ⟨#[]⟩, fun _ => rfl, rfl, ?_⟩
  · show (0 : Int) ≤ (if IntKind.i64.wrap ((s.size : Int) + 1) < IntKind.i64.wrap (cnt s + 1) then IntKind.i64.wrap ((s.size : Int) + 1) else IntKind.i64.wrap (cnt s + 1))
    rw [eN]; omega
  · show (if IntKind.i64.wrap ((s.size : Int) + 1) < IntKind.i64.wrap (cnt s + 1) then IntKind.i64.wrap ((s.size : Int) + 1) else IntKind.i64.wrap (cnt s + 1)) ≤ 4294967296
    rw [eN]; omega
  conv => whnf
  let S (i : Nat) (t : ByteArray) : Sl := [(10, .lf (.int .i64 i)), (3, .lf (.int .i64 c)), (9, .sl 496 none), (2, .lf (.int .i64 0)), (1, .lf (.string ⟨#[46]⟩)), (0, .lf (.string t))]
  let H (r : List ByteArray) : Hp := [(496, some (.row .own 1 encS r))]
  refine ⟨fun m st h => ∃ (i : Nat) (t : ByteArray) (r : List ByteArray), i ≤ c ∧ (bs t).count 46 = c - i ∧ t.size ≤ s.size ∧ r.length = i ∧ partsT s = r ++ partsT t ∧ m = c - i ∧ st = S i t ∧ h = H (r ++ List.replicate (c + 1 - i) ⟨#[]⟩),
    c, [(496, 496)], S 0 s, H (List.replicate (c + 1) ⟨#[]⟩), ⟨rfl, ⟨rfl, ?_, rfl, rfl, rfl, rfl, trivial⟩, ?_, trivial⟩, ⟨0, s, [], by omega, by omega, by omega, rfl, rfl, by omega, rfl, rfl⟩, ?_⟩
  · show V.lf (.int .i64 (IntKind.i64.wrap ((if IntKind.i64.wrap ((s.size : Int) + 1) < IntKind.i64.wrap (cnt s + 1) then IntKind.i64.wrap ((s.size : Int) + 1) else IntKind.i64.wrap (cnt s + 1)) - 1))) = _
    rw [eN, w64 (by omega) (by omega), show ((c + 1 : Nat) : Int) - 1 = (c : Int) by omega]
  · show some (Ob.row .own 1 encS (List.replicate (if IntKind.i64.wrap ((s.size : Int) + 1) < IntKind.i64.wrap (cnt s + 1) then IntKind.i64.wrap ((s.size : Int) + 1) else IntKind.i64.wrap (cnt s + 1)).toNat ⟨#[]⟩)) = _
    rw [eN]; rfl
  rintro m _ _ ⟨i, t, r, g1, g2, g3, g4, g5, rfl, rfl, rfl⟩
  have hbt : (bs t).length = t.size := bs_len t
  have hL : (r ++ List.replicate (c + 1 - i) (⟨#[]⟩ : ByteArray)).length = c + 1 := by simp; omega
  conv => whnf
  refine br2 (fun h5 => ?_) (fun h5 => ?_)
  · have hi : i < c := by have h6 : (i : Int) < (c : Int) := of_decide_eq_true h5; omega
    conv => whnf
    refine ⟨t, rfl, ?_⟩
    rintro _ _ ⟨rfl, rfl⟩
    conv => whnf
    refine br2 (fun h6 => ?_) (fun h6 => ?_)
    · exfalso
      have h7 : idx t < 0 := of_decide_eq_true h6
      have := idx_miss (l := bs t) h7
      omega
    have h7 : ¬ idx t < 0 := of_decide_eq_false h6
    obtain ⟨k, hk⟩ : ∃ k : Nat, idx t = (k : Int) := ⟨(idx t).toNat, by omega⟩
    obtain ⟨k1, k2, k3⟩ := idx_hit (l := bs t) hk
    have w0 : IntKind.i64.wrap (idx t + 0) = (k : Int) := by rw [hk, Int.add_zero, w64 (by omega) (by omega)]
    have w1 : IntKind.i64.wrap (idx t + 1) = ((k + 1 : Nat) : Int) := by rw [hk, w64 (by omega) (by omega)]; rfl
    let X : ByteArray := t.extract (0 : Int).toNat (IntKind.i64.wrap (idx t + 0)).toNat
    let T : ByteArray := t.extract (IntKind.i64.wrap (idx t + 1)).toNat t.size
    have hX : X = ofB ((bs t).take k) := by
      show t.extract 0 (IntKind.i64.wrap (idx t + 0)).toNat = _
      rw [w0, Int.toNat_natCast, ← cut_eq, List.drop_zero]
    have hT : bs T = (bs t).drop (k + 1) := by
      show bs (t.extract (IntKind.i64.wrap (idx t + 1)).toNat t.size) = _
      rw [w1, Int.toNat_natCast, ← cut_eq, bs_of, List.take_of_length_le (by omega)]
    have hT2 : T.size ≤ s.size := by rw [← bs_len, hT, List.length_drop]; omega
    have hcnt : (bs T).count 46 = c - (i + 1) := by
      have h8 := g2
      rw [k2, List.count_append, List.count_cons_self, List.count_eq_zero.2 (fun hm => k3 46 hm rfl)] at h8
      rw [hT]; omega
    have hparts : partsT t = X :: partsT T := by
      unfold partsT
      rw [k2, parts_cut k3, List.map_cons, ← hX, hT]
    have hset : (r ++ List.replicate (c + 1 - i) (⟨#[]⟩ : ByteArray)).set i X = (r ++ [X]) ++ List.replicate (c + 1 - (i + 1)) ⟨#[]⟩ := by
      obtain ⟨n, hn⟩ : ∃ n, c + 1 - i = n + 1 := ⟨c - i, by omega⟩
      rw [hn, show c + 1 - (i + 1) = n by omega, List.set_append_right _ _ (by omega), g4, Nat.sub_self, List.replicate_succ, List.set_cons_zero]
      simp
    obtain ⟨z, hz⟩ := getL (l := r ++ List.replicate (c + 1 - i) (⟨#[]⟩ : ByteArray)) (show i < _ by rw [hL]; omega)
    conv => whnf
    refine ⟨Int.le_refl _, by rw [w0]; omega, by rw [w0]; omega, ?_⟩
    conv => whnf
    refine ⟨Int.natCast_nonneg _, (show (i : Int) < ((r ++ List.replicate (c + 1 - i) (⟨#[]⟩ : ByteArray)).length : Int) by rw [hL]; omega), ?_⟩
    conv => whnf
    refine ex2 z (nthI hz) ?_
    conv => whnf
    refine ⟨X, rfl, ?_⟩
    conv => whnf
    refine ⟨by show 0 ≤ IntKind.i64.wrap (idx t + 1); rw [w1]; omega, by show IntKind.i64.wrap (idx t + 1) ≤ (t.size : Int); rw [w1]; omega, Int.le_refl _, ?_⟩
    conv => whnf
    refine ⟨c - (i + 1), [(496, 496)], S (i + 1) T, H ((r ++ [X]) ++ List.replicate (c + 1 - (i + 1)) ⟨#[]⟩), by omega, ⟨rfl, ⟨?_, rfl, rfl, rfl, rfl, rfl, trivial⟩, ?_, trivial⟩, i + 1, T, r ++ [X], by omega, hcnt, hT2, by simp; omega, by rw [g5, hparts]; simp, rfl, rfl, rfl⟩
    · show V.lf (.int .i64 (IntKind.i64.wrap ((i : Int) + 1))) = _
      rw [w64 (by omega) (by omega)]; rfl
    · show some (Ob.row .own 1 encS ((r ++ List.replicate (c + 1 - i) (⟨#[]⟩ : ByteArray)).set i X)) = _
      rw [hset]
  have hi : i = c := by have h6 : ¬ (i : Int) < (c : Int) := of_decide_eq_false h5; omega
  subst hi
  have hset : (r ++ List.replicate (i + 1 - i) (⟨#[]⟩ : ByteArray)).set i t = partsT s := by
    have hp : partsT t = [t] := by
      unfold partsT
      rw [parts_plain fun d hd => fun e => ?_]
      · rw [List.map_singleton, of_bs]
      · have := List.count_pos_iff.2 (e ▸ hd : (46 : UInt8) ∈ bs t)
        omega
    rw [g5, hp, show i + 1 - i = 0 + 1 by omega, List.set_append_right _ _ (by omega), g4, Nat.sub_self]
    rfl
  obtain ⟨z, hz⟩ := getL (l := r ++ List.replicate (i + 1 - i) (⟨#[]⟩ : ByteArray)) (show i < _ by rw [hL]; omega)
  have w1 : IntKind.i64.wrap ((i : Int) + 1) = ((i + 1 : Nat) : Int) := by rw [w64 (by omega) (by omega)]; rfl
  conv => whnf
  refine ⟨Int.natCast_nonneg _, (show (i : Int) < ((r ++ List.replicate (i + 1 - i) (⟨#[]⟩ : ByteArray)).length : Int) by rw [hL]; omega), ?_⟩
  conv => whnf
  refine ex2 z (nthI hz) ?_
  conv => whnf
  refine ⟨t, rfl, ?_⟩
  conv => whnf
  refine ⟨Int.le_refl _, by rw [w1]; omega, ?_, ?_⟩
  · show IntKind.i64.wrap ((i : Int) + 1) ≤ (((r ++ List.replicate (i + 1 - i) (⟨#[]⟩ : ByteArray)).set i t).length : Int)
    rw [w1, List.length_set, hL]; omega
  conv => whnf
  refine ⟨⟨rfl, ?_⟩⟩
  show [[D.row 1 encS ((((r ++ List.replicate (i + 1 - i) (⟨#[]⟩ : ByteArray)).set i t).drop 0).take (IntKind.i64.wrap ((i : Int) + 1) - 0).toNat)]] = [[D.row 1 encS (partsT s)]]
  have hl2 : (partsT s).length = i + 1 := by rw [← hset, List.length_set, hL]
  rw [hset, w1, List.drop_zero, List.take_of_length_le (by omega)]
theorem genSplit_ok : FnOk Tryd.prog 24 cGen := fnOk_of fun x => fnX_at tab_ok (SOk.cons count_ok (SOk.cons index_ok SOk.nil)) mixed (fn := Tryd.f24) (code := body Tryd.f24) ⟨Tryd.func24, rfl, by kernel_rfl, by kernel_rfl, by kernel_rfl, by kernel_rfl⟩ (ev_genSplit x)
def cSplit : Con := pureC SplX [(.rd, false), (.rd, false)] [false] (fun x => [[.lf (.string x.s)], [.lf (.string ⟨#[46]⟩)]]) (fun x => [[.row 1 encS (partsT x.s)]])
theorem ev_split : ∀ x, evFnX tab [(24, cGen)] cSplit Tryd.f15 (body Tryd.f15) x := by
  rintro ⟨s, hs⟩
  conv => whnf
  refine ⟨⟨s, hs⟩, rfl, ?_⟩
  rintro _ _ ⟨rfl, rfl⟩
  conv => whnf
  exact ⟨⟨rfl, rfl⟩⟩
theorem split_ok : FnOk Tryd.prog 15 cSplit := fnOk_of fun x => fnX_at tab_ok (SOk.cons genSplit_ok SOk.nil) mixed (fn := Tryd.f15) (code := body Tryd.f15) ⟨Tryd.func15, rfl, by kernel_rfl, by kernel_rfl, by kernel_rfl, by kernel_rfl⟩ (ev_split x)
end Go.Vm
namespace Go.Vm
open Go.Proofs
set_option maxRecDepth 100000
set_option linter.unusedVariables false
set_option linter.unusedSimpArgs false

def dot : ByteArray := ⟨#[46]⟩
def txJ (x : TxX) : ByteArray := numT x.c ++ dot ++ numT x.e ++ dot ++ numT x.n
def txT (x : TxX) : ByteArray := if txOkB x then txJ x else ⟨#[]⟩
def cTxText : Con := pureC TxX [(.rd, true)] [false] (fun x => [x.ds]) (fun x => [[.lf (.string (txT x))]])
theorem ev_iTxText : ∀ x, evFnX tab [(20, cTxOk), (21, cNumText)] cTxText Tryd.f9 (body Tryd.f9) x := by
  rintro ⟨c, e, n⟩
  conv => whnf
  refine ⟨⟨c, e, n⟩, rfl, ?_⟩
  rintro _ _ ⟨rfl, rfl⟩
  conv => whnf
  refine br2 (fun h => ?_) (fun h => ?_)
  · have h2 : txOkB ⟨c, e, n⟩ = false := by simpa using h
    conv => whnf
    refine ⟨⟨rfl, ?_⟩⟩
    show _ = [[D.lf (.string (txT ⟨c, e, n⟩))]]
    rw [txT, if_neg (by rw [h2]; simp)]
  have h2 : txOkB ⟨c, e, n⟩ = true := by simpa using h
  obtain ⟨b1, b2, b3, b4, b5, b6⟩ : 0 ≤ c ∧ c ≤ 7 ∧ 1 ≤ e ∧ e ≤ 999 ∧ 1 ≤ n ∧ n ≤ 999 := by
    simp [txOkB] at h2; omega
  have s1 := numT_size c
  have s2 := numT_size e
  have s3 := numT_size n
  have d1 : dot.size = 1 := rfl
  have q1 : (numT c).size + dot.size ≤ 4294967296 := by omega
  have q2 : (numT c ++ dot).size + (numT e).size ≤ 4294967296 := by rw [ByteArray.size_append]; omega
  have q3 : (numT c ++ dot ++ numT e).size + dot.size ≤ 4294967296 := by rw [ByteArray.size_append, ByteArray.size_append]; omega
  have q4 : (numT c ++ dot ++ numT e ++ dot).size + (numT n).size ≤ 4294967296 := by rw [ByteArray.size_append, ByteArray.size_append, ByteArray.size_append]; omega
  have fin : [[D.lf (.string (txJ ⟨c, e, n⟩))]] = [[D.lf (.string (txT ⟨c, e, n⟩))]] := by rw [txT, if_pos h2]
  repeat' ((conv => whnf); first
    | refine rc_i rfl ?_
    | refine rc_i ⟨q1, rfl⟩ ?_
    | refine rc_i ⟨q2, rfl⟩ ?_
    | refine rc_i ⟨q3, rfl⟩ ?_
    | refine rc_i ⟨q4, rfl⟩ ?_
    | (refine ⟨⟨c, by omega, by omega⟩, rfl, ?_⟩; rintro _ _ ⟨rfl, rfl⟩)
    | (refine ⟨⟨e, by omega, by omega⟩, rfl, ?_⟩; rintro _ _ ⟨rfl, rfl⟩)
    | (refine ⟨⟨n, by omega, by omega⟩, rfl, ?_⟩; rintro _ _ ⟨rfl, rfl⟩)
    | refine ⟨q1, ?_⟩
    | refine ⟨q2, ?_⟩
    | refine ⟨q3, ?_⟩
    | refine ⟨q4, ?_⟩
    | exact ⟨⟨rfl, fin⟩⟩
    | refine ⟨?_, ?_⟩)
theorem iTxText_ok : FnOk Tryd.prog 9 cTxText := fnOk_of fun x => fnX_at tab_ok (SOk.cons iTxOk_ok (SOk.cons iNumText_ok SOk.nil)) mixed (fn := Tryd.f9) (code := body Tryd.f9) ⟨Tryd.func9, rfl, by kernel_rfl, by kernel_rfl, by kernel_rfl, by kernel_rfl⟩ (ev_iTxText x)
theorem ev_sTxText : ∀ x, evFnX tab [(10, cTxOk), (23, cNumText)] cTxText Tryd.f14 (body Tryd.f14) x := by
  rintro ⟨c, e, n⟩
  conv => whnf
  refine ⟨⟨c, e, n⟩, rfl, ?_⟩
  rintro _ _ ⟨rfl, rfl⟩
  conv => whnf
  refine br2 (fun h => ?_) (fun h => ?_)
  · have h2 : txOkB ⟨c, e, n⟩ = false := by simpa using h
    conv => whnf
    refine ⟨⟨rfl, ?_⟩⟩
    show _ = [[D.lf (.string (txT ⟨c, e, n⟩))]]
    rw [txT, if_neg (by rw [h2]; simp)]
  have h2 : txOkB ⟨c, e, n⟩ = true := by simpa using h
  obtain ⟨b1, b2, b3, b4, b5, b6⟩ : 0 ≤ c ∧ c ≤ 7 ∧ 1 ≤ e ∧ e ≤ 999 ∧ 1 ≤ n ∧ n ≤ 999 := by
    simp [txOkB] at h2; omega
  have s1 := numT_size c
  have s2 := numT_size e
  have s3 := numT_size n
  have d1 : dot.size = 1 := rfl
  have q1 : (numT c).size + dot.size ≤ 4294967296 := by omega
  have q2 : (numT c ++ dot).size + (numT e).size ≤ 4294967296 := by rw [ByteArray.size_append]; omega
  have q3 : (numT c ++ dot ++ numT e).size + dot.size ≤ 4294967296 := by rw [ByteArray.size_append, ByteArray.size_append]; omega
  have q4 : (numT c ++ dot ++ numT e ++ dot).size + (numT n).size ≤ 4294967296 := by rw [ByteArray.size_append, ByteArray.size_append, ByteArray.size_append]; omega
  have fin : [[D.lf (.string (txJ ⟨c, e, n⟩))]] = [[D.lf (.string (txT ⟨c, e, n⟩))]] := by rw [txT, if_pos h2]
  repeat' ((conv => whnf); first
    | refine rc_i rfl ?_
    | refine rc_i ⟨q1, rfl⟩ ?_
    | refine rc_i ⟨q2, rfl⟩ ?_
    | refine rc_i ⟨q3, rfl⟩ ?_
    | refine rc_i ⟨q4, rfl⟩ ?_
    | (refine ⟨⟨c, by omega, by omega⟩, rfl, ?_⟩; rintro _ _ ⟨rfl, rfl⟩)
    | (refine ⟨⟨e, by omega, by omega⟩, rfl, ?_⟩; rintro _ _ ⟨rfl, rfl⟩)
    | (refine ⟨⟨n, by omega, by omega⟩, rfl, ?_⟩; rintro _ _ ⟨rfl, rfl⟩)
    | refine ⟨q1, ?_⟩
    | refine ⟨q2, ?_⟩
    | refine ⟨q3, ?_⟩
    | refine ⟨q4, ?_⟩
    | exact ⟨⟨rfl, fin⟩⟩
    | refine ⟨?_, ?_⟩)
theorem sTxText_ok : FnOk Tryd.prog 14 cTxText := fnOk_of fun x => fnX_at tab_ok (SOk.cons sTxOk_ok (SOk.cons sNumText_ok SOk.nil)) mixed (fn := Tryd.f14) (code := body Tryd.f14) ⟨Tryd.func14, rfl, by kernel_rfl, by kernel_rfl, by kernel_rfl, by kernel_rfl⟩ (ev_sTxText x)
theorem dot_numL {k : Nat} : ∀ d ∈ numL k, d ≠ 46 := fun d hd e => by have := (numL_dig k d hd).1; rw [e] at this; revert this; decide
theorem txT_parts {x : TxX} (h : txOkB x = true) : partsT (txT x) = [ofB (numL x.c.toNat), ofB (numL x.e.toNat), ofB (numL x.n.toNat)] ∧ (txT x).size ≤ 9 := by
  obtain ⟨c, e, n⟩ := x
  obtain ⟨b1, b2, b3, b4, b5, b6⟩ : 0 ≤ c ∧ c ≤ 7 ∧ 1 ≤ e ∧ e ≤ 999 ∧ 1 ≤ n ∧ n ≤ 999 := by
    simp [txOkB] at h; omega
  obtain ⟨c, rfl⟩ : ∃ k : Nat, c = k := ⟨c.toNat, by omega⟩
  obtain ⟨e, rfl⟩ : ∃ k : Nat, e = k := ⟨e.toNat, by omega⟩
  obtain ⟨n, rfl⟩ : ∃ k : Nat, n = k := ⟨n.toNat, by omega⟩
  have e1 : bs (txT ⟨c, e, n⟩) = numL c ++ 46 :: (numL e ++ 46 :: numL n) := by
    rw [txT, if_pos h]
    simp only [txJ]
    rw [numT_yes (by omega), numT_yes (by omega), numT_yes (by omega)]
    simp [bs, ofB, dot]
  refine ⟨?_, ?_⟩
  · unfold partsT
    rw [e1, parts_cut dot_numL, parts_cut dot_numL, parts_plain dot_numL]
    rfl
  · have l1 := numL_len (n := c) (k := 0) (by omega)
    have l2 := numL_len (n := e) (k := 2) (by omega)
    have l3 := numL_len (n := n) (k := 2) (by omega)
    rw [← bs_len, e1]
    simp; omega
def tx0 : TxX := ⟨0, 0, 0⟩
/-- The transaction whose name this is. -/
structure TextTxR (s : ByteArray) (x : TxX) (ok : Bool) : Prop where
  yes : ok = true → txT x = s ∧ txOkB x = true
  no : ok = false → x = tx0
  all : ∀ q, txOkB q = true → txT q = s → ok = true ∧ x = q
theorem TextTxR.same {s : ByteArray} {r r' : TxX} {ok ok' : Bool} (h : TextTxR s r ok) (h' : TextTxR s r' ok') : r = r' ∧ ok = ok' := by
  cases ok with
  | true =>
    obtain ⟨h1, h2⟩ := h.yes rfl
    obtain ⟨h3, h4⟩ := h'.all r h2 h1
    exact ⟨h4.symm, h3.symm⟩
  | false =>
    cases ok' with
    | true =>
      obtain ⟨h1, h2⟩ := h'.yes rfl
      obtain ⟨h3, _⟩ := h.all r' h2 h1
      cases h3
    | false => exact ⟨(h.no rfl).trans (h'.no rfl).symm, rfl⟩
theorem textTx_none {s : ByteArray} (h : ∀ q, txOkB q = true → txT q = s → False) : TextTxR s tx0 false := ⟨fun e => (by cases e), fun _ => rfl, fun q h1 h2 => (h q h1 h2).elim⟩
theorem textTx_end {s : ByteArray} {x : TxX} (hs : s ≠ ⟨#[]⟩) (h : ∀ q, txOkB q = true → txT q = s → x = q) : (txT x = s → TextTxR s x true) ∧ (txT x ≠ s → TextTxR s tx0 false) := by
  refine ⟨fun e => ⟨fun _ => ⟨e, ?_⟩, fun e => (by cases e), fun q h1 h2 => ⟨rfl, h q h1 h2⟩⟩, fun e => textTx_none fun q h1 h2 => e (by rw [h q h1 h2]; exact h2)⟩
  cases h1 : txOkB x with
  | true => rfl
  | false => rw [txT, if_neg (by rw [h1]; simp)] at e; exact absurd e.symm hs
def cTextTx : Con := relC SplX [(.rd, false)] [true, false] (fun x => [[.lf (.string x.s)]]) (fun x r => ∃ q ok, r = [q.ds, [.lf (.bool ok)]] ∧ TextTxR x.s q ok)
theorem tx_num {q : TxX} (h : txOkB q = true) : (q.c.toNat ≤ 1099511627775 ∧ (q.c.toNat : Int) = q.c) ∧ (q.e.toNat ≤ 1099511627775 ∧ (q.e.toNat : Int) = q.e) ∧ (q.n.toNat ≤ 1099511627775 ∧ (q.n.toNat : Int) = q.n) := by
  simp [txOkB] at h; omega
theorem tx_three {s : ByteArray} {a b d : ByteArray} {v1 v2 v3 : Int} {o1 o2 o3 : Bool} (hp : partsT s = [a, b, d]) (h1 : TextNumR a v1 o1) (h2 : TextNumR b v2 o2) (h3 : TextNumR d v3 o3) : ∀ q, txOkB q = true → txT q = s → (⟨v1, v2, v3⟩ : TxX) = q := by
  intro q hq e
  obtain ⟨p1, _⟩ := txT_parts hq
  rw [e, hp] at p1
  obtain ⟨⟨n1, m1⟩, ⟨n2, m2⟩, n3, m3⟩ := tx_num hq
  simp only [List.cons.injEq, and_true] at p1
  obtain ⟨y1, y2, y3⟩ := p1
  rw [(h1.all _ n1 y1.symm).2, (h2.all _ n2 y2.symm).2, (h3.all _ n3 y3.symm).2, m1, m2, m3]
theorem empty_parts : partsT ⟨#[]⟩ = [⟨#[]⟩] := rfl
theorem ev_iTextTx : ∀ x, evFnX tab [(15, cSplit), (16, cTextNum), (9, cTxText)] cTextTx Tryd.f6 (body Tryd.f6) x := by
  rintro ⟨s, hs⟩
  conv => whnf
  refine ⟨⟨s, hs⟩, rfl, ?_⟩
  rintro _ _ ⟨rfl, rfl⟩
  conv => whnf
  intro _
  conv => whnf
  refine br2 (fun h => ?_) (fun h => ?_)
  · have h2 : (partsT s).length ≠ 3 := fun e => by
      replace h : (((partsT s).length : Int) != 3) = true := h
      rw [e] at h; simp at h
    conv => whnf
    exact ⟨⟨rfl, tx0, false, rfl, textTx_none fun q hq e => h2 (by have e2 : txT q = s := e; rw [← e2, (txT_parts hq).1]; rfl)⟩⟩
  have h2 : (partsT s).length = 3 := by
    replace h : (((partsT s).length : Int) != 3) = false := h
    simp at h; omega
  obtain ⟨a, b, d, hp⟩ : ∃ a b d, partsT s = [a, b, d] := by
    match hl : partsT s, h2 with
    | [a, b, d], _ => exact ⟨a, b, d, rfl⟩
  have hne : s ≠ ⟨#[]⟩ := fun e => by rw [e, empty_parts] at h2; cases h2
  have hT := @tx_three s a b d
  replace hT := fun v1 v2 v3 o1 o2 o3 => @hT v1 v2 v3 o1 o2 o3 hp
  generalize hl : partsT (⟨s, hs⟩ : SplX).s = l at *
  subst hp
  conv => whnf
  refine ⟨of_decide_eq_true rfl, of_decide_eq_true rfl, ?_⟩
  conv => whnf
  refine ⟨a, rfl, ?_⟩
  rintro _ _ ⟨rfl, v1, o1, rfl, n1⟩
  conv => whnf
  refine ⟨of_decide_eq_true rfl, of_decide_eq_true rfl, ?_⟩
  conv => whnf
  refine ⟨b, rfl, ?_⟩
  rintro _ _ ⟨rfl, v2, o2, rfl, n2⟩
  conv => whnf
  refine ⟨of_decide_eq_true rfl, of_decide_eq_true rfl, ?_⟩
  conv => whnf
  refine ⟨d, rfl, ?_⟩
  rintro _ _ ⟨rfl, v3, o3, rfl, n3⟩
  obtain ⟨f1, f2⟩ := textTx_end (x := ⟨v1, v2, v3⟩) hne (hT _ _ _ _ _ _ n1 n2 n3)
  conv => whnf
  refine ⟨⟨v1, v2, v3⟩, rfl, ?_⟩
  rintro _ _ ⟨rfl, rfl⟩
  conv => whnf
  refine br2 (fun h3 => ?_) (fun h3 => ?_)
  · replace h3 : (!strEq (txT ⟨v1, v2, v3⟩) s) = true := h3
    rw [Bool.not_eq_true', strEq_no] at h3
    conv => whnf
    exact ⟨⟨rfl, tx0, false, rfl, f2 h3⟩⟩
  · replace h3 : (!strEq (txT ⟨v1, v2, v3⟩) s) = false := h3
    rw [Bool.not_eq_false', strEq_iff] at h3
    conv => whnf
    exact ⟨⟨rfl, ⟨v1, v2, v3⟩, true, rfl, f1 h3⟩⟩
theorem iTextTx_ok : FnOk Tryd.prog 6 cTextTx := fnOk_of fun x => fnX_at tab_ok (SOk.cons split_ok (SOk.cons iTextNum_ok (SOk.cons iTxText_ok SOk.nil))) mixed (fn := Tryd.f6) (code := body Tryd.f6) ⟨Tryd.func6, rfl, by kernel_rfl, by kernel_rfl, by kernel_rfl, by kernel_rfl⟩ (ev_iTextTx x)
def encI (n : Int) : List D := [.lf (.int .i64 n)]
theorem ev_sTextTx : ∀ x, evFnX tab [(1000004, cGh), (12, cParts), (13, cTextNum), (14, cTxText)] cTextTx Tryd.f5 (body Tryd.f5) x := by
  rintro ⟨s, hs⟩
  conv => whnf
  refine br2 (fun h => ?_) (fun h => ?_)
  · have h2 : (s.size : Int) > 9 := of_decide_eq_true h
    conv => whnf
    exact ⟨⟨rfl, tx0, false, rfl, textTx_none fun q hq e => by have e2 : txT q = s := e; have := (txT_parts hq).2; rw [e2] at this; omega⟩⟩
  conv => whnf
  refine ⟨[.row 192], ?_⟩
  conv => whnf
  refine ⟨Int, encI, [0, 0, 0], fun _ => rfl, rfl, ?_⟩
  conv => whnf
  refine ⟨⟨s, hs⟩, rfl, ?_⟩
  rintro _ _ ⟨rfl, rfl⟩
  conv => whnf
  intro hlen
  replace hlen : (partsT s).length ≤ 9223372036854775807 := hlen
  conv => whnf
  have hP : ∀ q, txOkB q = true → txT q = s → partsT s = [ofB (numL q.c.toNat), ofB (numL q.e.toNat), ofB (numL q.n.toNat)] := fun q hq e => by rw [← e]; exact (txT_parts hq).1
  let S (i : Nat) : Sl := [(16, .lf (.int .i64 i)), (15, .lf (.int .i64 (partsT s).length)), (14, .sl 224 none), (4, .sl 192 none), (2, .pt 32 0 0), (0, .lf (.string s))]
  let H (vs : List Int) : Hp := [(224, some (.row .own 1 encS (partsT s))), (192, some (.row .own 1 encI vs)), (32, some (.arr true 3 [[.lf (.int .i64 0), .lf (.int .i64 0), .lf (.int .i64 0)]]))]
  refine ⟨fun m st h => ∃ (i : Nat) (vs : List Int), i ≤ (partsT s).length ∧ vs.length = 3 ∧ (∀ q, txOkB q = true → txT q = s → vs.take i = [q.c, q.e, q.n].take i) ∧ m = (partsT s).length - i ∧ st = S i ∧ h = H vs,
    (partsT s).length, [(224, 224), (192, 192), (32, 32)], S 0, H [0, 0, 0], ⟨rfl, ⟨rfl, rfl, rfl, rfl, rfl, rfl, trivial⟩, rfl, rfl, rfl, trivial⟩, ⟨0, [0, 0, 0], by omega, rfl, fun _ _ _ => rfl, rfl, rfl, rfl⟩, ?_⟩
  rintro m _ _ ⟨i, vs, g1, g2, g3, rfl, rfl, rfl⟩
  conv => whnf
  refine br2 (fun h5 => ?_) (fun h5 => ?_)
  · have hi : i < (partsT s).length := by have h6 : (i : Int) < ((partsT s).length : Int) := of_decide_eq_true h5; omega
    obtain ⟨a, ha⟩ := getL hi
    have hw : V.lf (.int .i64 (IntKind.i64.wrap ((i : Int) + 1))) = V.lf (.int .i64 ((i + 1 : Nat) : Int)) := by rw [w64 (by omega) (by omega)]; rfl
    conv => whnf
    refine ⟨Int.natCast_nonneg _, (show (i : Int) < ((partsT s).length : Int) by omega), ?_⟩
    conv => whnf
    refine ex2 a (nthI ha) ?_
    conv => whnf
    refine br2 (fun h6 => ?_) (fun h6 => ?_)
    · have hi3 : i < 3 := by have h7 : (i : Int) < 3 := of_decide_eq_true h6; omega
      obtain ⟨z, hz⟩ := getL (l := vs) (show i < vs.length by omega)
      conv => whnf
      refine ⟨a, rfl, ?_⟩
      rintro _ _ ⟨rfl, v, ok, rfl, hN⟩
      conv => whnf
      refine ⟨Int.natCast_nonneg _, (show (i : Int) < (vs.length : Int) by omega), ?_⟩
      conv => whnf
      refine ex2 z (nthI hz) ?_
      conv => whnf
      refine ⟨v, rfl, ?_⟩
      conv => whnf
      refine ⟨(partsT s).length - (i + 1), [(224, 224), (192, 192), (32, 32)], S (i + 1), H (vs.set i v), by omega, ⟨rfl, ⟨hw, rfl, rfl, rfl, rfl, rfl, trivial⟩, rfl, rfl, rfl, trivial⟩, i + 1, vs.set i v, by omega, by simp; omega, fun q hq e => ?_, rfl, rfl, rfl⟩
      have hp := hP q hq e
      obtain ⟨⟨n1, m1⟩, ⟨n2, m2⟩, n3, m3⟩ := tx_num hq
      rw [List.take_add_one, List.take_add_one, List.take_set_of_le (by omega), List.getElem?_set_self (by omega), g3 q hq e]
      congr 2
      rw [hp] at ha
      rcases (show i = 0 ∨ i = 1 ∨ i = 2 by omega) with rfl | rfl | rfl
      · have e1 : ofB (numL q.c.toNat) = a := by simpa using ha
        rw [(hN.all _ n1 e1).2, m1]; rfl
      · have e1 : ofB (numL q.e.toNat) = a := by simpa using ha
        rw [(hN.all _ n2 e1).2, m2]; rfl
      · have e1 : ofB (numL q.n.toNat) = a := by simpa using ha
        rw [(hN.all _ n3 e1).2, m3]; rfl
    · have hi3 : ¬ i < 3 := by have h7 : ¬ (i : Int) < 3 := of_decide_eq_false h6; omega
      conv => whnf
      refine ⟨(partsT s).length - (i + 1), [(224, 224), (192, 192), (32, 32)], S (i + 1), H vs, by omega, ⟨rfl, ⟨hw, rfl, rfl, rfl, rfl, rfl, trivial⟩, rfl, rfl, rfl, trivial⟩, i + 1, vs, by omega, g2, fun q hq e => ?_, rfl, rfl, rfl⟩
      have := g3 q hq e
      rw [List.take_of_length_le (by omega), List.take_of_length_le (by simp; omega)] at this
      rw [List.take_of_length_le (by omega), List.take_of_length_le (by simp; omega), this]
  have hi : i = (partsT s).length := by have h6 : ¬ (i : Int) < ((partsT s).length : Int) := of_decide_eq_false h5; omega
  obtain ⟨v1, v2, v3, rfl⟩ : ∃ a b c, vs = [a, b, c] := by
    match vs, g2 with
    | [a, b, c], _ => exact ⟨a, b, c, rfl⟩
  have hx : ∀ q, txOkB q = true → txT q = s → (⟨v1, v2, v3⟩ : TxX) = q := fun q hq e => by
    have h8 := g3 q hq e
    have h9 : i = 3 := by rw [hi, hP q hq e]; rfl
    rw [h9] at h8
    simp at h8
    obtain ⟨c, e2, n⟩ := q
    obtain ⟨r1, r2, r3⟩ := h8
    rw [r1, r2, r3]
  clear hi h5 g1 g3
  conv => whnf
  repeat' ((first
    | refine ⟨of_decide_eq_true rfl, of_decide_eq_true rfl, ?_⟩
    | refine rc_i (by (conv => whnf); first | rfl | exact ⟨of_decide_eq_true rfl, of_decide_eq_true rfl, rfl⟩) ?_); conv => whnf)
  refine br2 (fun h3 => ?_) (fun h3 => ?_)
  · have h4 : s = ⟨#[]⟩ := strEq_iff.1 h3
    conv => whnf
    exact ⟨⟨rfl, tx0, false, rfl, textTx_none fun q hq e => by
      have e2 : txT q = s := e
      have h5 := hP q hq e2
      rw [h4, empty_parts] at h5; have h6 := congrArg List.length h5; simp at h6⟩⟩
  have hne : s ≠ ⟨#[]⟩ := strEq_no.1 h3
  obtain ⟨f1, f2⟩ := textTx_end (x := ⟨v1, v2, v3⟩) hne hx
  conv => whnf
  refine ⟨⟨v1, v2, v3⟩, rfl, ?_⟩
  rintro _ _ ⟨rfl, rfl⟩
  conv => whnf
  refine br2 (fun h3 => ?_) (fun h3 => ?_)
  · replace h3 : (!strEq (txT ⟨v1, v2, v3⟩) s) = true := h3
    rw [Bool.not_eq_true', strEq_no] at h3
    conv => whnf
    exact ⟨⟨rfl, tx0, false, rfl, f2 h3⟩⟩
  · replace h3 : (!strEq (txT ⟨v1, v2, v3⟩) s) = false := h3
    rw [Bool.not_eq_false', strEq_iff] at h3
    conv => whnf
    exact ⟨⟨rfl, ⟨v1, v2, v3⟩, true, rfl, f1 h3⟩⟩
theorem sTextTx_ok : FnOk Tryd.prog 5 cTextTx := fnOk_of fun x => fnX_at tab_ok (SOk.cons gh_ok (SOk.cons l07Parts_ok (SOk.cons sTextNum_ok (SOk.cons sTxText_ok SOk.nil)))) mixed (fn := Tryd.f5) (code := body Tryd.f5) ⟨Tryd.func5, rfl, by kernel_rfl, by kernel_rfl, by kernel_rfl, by kernel_rfl⟩ (ev_sTextTx x)
def cLawS : Con := pureC ByteArray [(.rd, false)] [false] (fun s => [[.lf (.string s)]]) (fun _ => [[.lf (.bool true)]])
theorem ev_lawTextTx : ∀ x, evFnX tab [(5, cTextTx), (6, cTextTx), (7, (cEq TxX.ds))] cLawS Tryd.f3 (body Tryd.f3) x := by
  intro (s : ByteArray)
  conv => whnf
  refine br2 (fun h0 => ?_) (fun h0 => ?_)
  · conv => whnf
    exact ⟨⟨rfl, rfl⟩⟩
  have hs : s.size ≤ 1048576 := by have h1 : ¬ (s.size : Int) > 1048576 := of_decide_eq_false h0; omega
  conv => whnf
  refine ⟨⟨s, hs⟩, rfl, ?_⟩
  rintro _ _ ⟨rfl, q, ok, rfl, e1⟩
  conv => whnf
  refine ⟨⟨s, hs⟩, rfl, ?_⟩
  rintro _ _ ⟨rfl, q', ok', rfl, e2⟩
  obtain ⟨rfl, rfl⟩ := e1.same e2
  conv => whnf
  refine ⟨(q, q), rfl, ?_⟩
  rintro _ _ ⟨rfl, rfl⟩
  conv => whnf
  have hq : (!eqX q q) = false := by rw [eqX_refl]; rfl
  refine br2 (fun h => absurd (hq.symm.trans h) (by simp)) (fun _ => ?_)
  conv => whnf
  refine br2 (fun h => absurd h (by simp)) (fun _ => ?_)
  conv => whnf
  exact ⟨⟨rfl, rfl⟩⟩
theorem lawTextTx_ok : FnOk Tryd.prog 3 cLawS := fnOk_of fun x => fnX_at tab_ok (SOk.cons sTextTx_ok (SOk.cons iTextTx_ok (SOk.cons eqTx_ok SOk.nil))) mixed (fn := Tryd.f3) (code := body Tryd.f3) ⟨Tryd.func3, rfl, by kernel_rfl, by kernel_rfl, by kernel_rfl, by kernel_rfl⟩ (ev_lawTextTx x)
end Go.Vm
namespace Go.Vm
open Go.Proofs
set_option maxRecDepth 100000
set_option linter.unusedVariables false
set_option linter.unusedSimpArgs false

structure CurX where
  b : List UInt8
  i : Int
  h : Int
  hb : b.length ≤ 1048576
  h1 : 0 ≤ i
  h2 : i ≤ b.length
  h3 : -9223372036854775808 ≤ h
  h4 : h ≤ 9223372036854775807
def CurX.d (c : CurX) : D := .box [.sh (.row 1 encB c.b), .lf (.int .i64 c.i), .lf (.int .i64 c.h)]
theorem wrap_lo (n : Int) : -9223372036854775808 ≤ IntKind.i64.wrap n := by simp [IntKind.wrap, IntKind.bits, IntKind.signed]; omega
theorem wrap_hi (n : Int) : IntKind.i64.wrap n ≤ 9223372036854775807 := by simp [IntKind.wrap, IntKind.bits, IntKind.signed]; omega
theorem and255 (a : Int) : 0 ≤ IntKind.i64.wrap ((BitVec.ofInt 64 a &&& BitVec.ofInt 64 255).toNat : Int) ∧ IntKind.i64.wrap ((BitVec.ofInt 64 a &&& BitVec.ofInt 64 255).toNat : Int) ≤ 255 := by
  have h : (BitVec.ofInt 64 a &&& BitVec.ofInt 64 255).toNat ≤ 255 := by
    rw [BitVec.toNat_and]
    exact Nat.le_trans Nat.and_le_right (by decide)
  rw [w64 (by omega) (by omega)]; omega
/-- What a draw of a number tells: it is within bounds. -/
def cByte : Con := { X := CurX, params := [(.mut, false)], res := [false], resOwn := true, ins := fun c => [[c.d]], post := fun _ outs r => ∃ (c : CurX) (v : Int), outs = [[c.d]] ∧ r = [[.lf (.int .i64 v)]] ∧ 0 ≤ v ∧ v ≤ 255 }
structure CodeX where
  b : List UInt8
  hb : b.length ≤ 1048576
def cNew : Con := { X := CodeX, params := [(.keep, false)], res := [false], resOwn := true, ins := fun c => [[.row 1 encB c.b]], post := fun _ outs r => outs = [] ∧ ∃ c : CurX, r = [[c.d]] }
theorem ev_l01New : ∀ x, evFnX tab [] cNew Tryd.f17 (body Tryd.f17) x := by
  rintro ⟨l, hb⟩
  conv => whnf
  intro _
  conv => whnf
  have hw : IntKind.i64.wrap (789392 + (l.length : Int)) = 789392 + (l.length : Int) := w64 (by omega) (by omega)
  refine ⟨fun m s h => ∃ (i : Nat) (q : Int), i ≤ l.length ∧ m = l.length - i ∧ -9223372036854775808 ≤ q ∧ q ≤ 9223372036854775807 ∧ s = [(0, .sl 0 none), (3, .lf (.int .i64 q)), (4, .lf (.int .i64 i))] ∧ h = [(0, some (.row .ro 1 encB l))],
    l.length, [(0, 0)], [(0, .sl 0 none), (3, .lf (.int .i64 _)), (4, .lf (.int .i64 0))], [(0, some (.row .ro 1 encB l))], ⟨rfl, ⟨rfl, rfl, rfl, trivial⟩, rfl, trivial⟩, ⟨0, _, by omega, by omega, wrap_lo _, wrap_hi _, rfl, rfl⟩, ?_⟩
  rintro m _ _ ⟨i, q, g1, rfl, g2, g3, rfl, rfl⟩
  conv => whnf
  intro _
  conv => whnf
  have out : ∃ c : CurX, [[D.box [.sh (.row 1 encB l), .lf (.int .i64 0), .lf (.int .i64 q)]]] = [[c.d]] := ⟨⟨l, 0, q, hb, by omega, by omega, g2, g3⟩, rfl⟩
  refine br2 (fun h5 => ?_) (fun h5 => ?_)
  · have hi : i < l.length := by have := of_decide_eq_true h5; omega
    obtain ⟨y, hy⟩ := getL hi
    conv => whnf
    refine br2 (fun h6 => ?_) (fun h6 => ?_)
    · conv => whnf
      refine ⟨Int.natCast_nonneg _, (show (i : Int) < (l.length : Int) by omega), ?_⟩
      conv => whnf
      refine ex2 y (nthI hy) ?_
      conv => whnf
      refine ⟨l.length - (i + 1), [(0, 0)], [(0, .sl 0 none), (3, .lf (.int .i64 _)), (4, .lf (.int .i64 ((i + 1 : Nat) : Int)))], [(0, some (.row .ro 1 encB l))], by omega, ⟨rfl, ⟨rfl, rfl, ?_, trivial⟩, rfl, trivial⟩, i + 1, _, by omega, rfl, wrap_lo _, wrap_hi _, rfl, rfl⟩
      show V.lf (.int .i64 (IntKind.i64.wrap ((i : Int) + 1))) = _
      rw [w64 (by omega) (by omega)]; rfl
    · conv => whnf
      exact ⟨⟨rfl, out⟩⟩
  · conv => whnf
    exact ⟨⟨rfl, out⟩⟩
theorem l01New_ok : FnOk Tryd.prog 17 cNew := fnOk_of fun x => fnX_at tab_ok (SOk.nil) mixed (fn := Tryd.f17) (code := body Tryd.f17) ⟨Tryd.func17, rfl, by kernel_rfl, by kernel_rfl, by kernel_rfl, by kernel_rfl⟩ (ev_l01New x)
theorem ev_l01Byte : ∀ x, evFnX tab [] cByte Tryd.f28 (body Tryd.f28) x := by
  rintro ⟨l, i, q, hb, h1, h2, h3, h4⟩
  replace hb : l.length ≤ 1048576 := hb
  replace h2 : i ≤ (l.length : Int) := h2
  conv => whnf
  intro _
  conv => whnf
  refine br2 (fun h5 => ?_) (fun h5 => ?_)
  · have hi : i < (l.length : Int) := of_decide_eq_true h5
    obtain ⟨y, hy⟩ := getL (l := l) (j := i.toNat) (by omega)
    have hy2 : nth l i.toNat = some y := by rw [nth_eq]; exact hy
    conv => whnf
    refine ⟨h1, hi, ?_⟩
    conv => whnf
    refine ex2 y hy2 ?_
    conv => whnf
    repeat (refine rc_i rfl ?_; conv => whnf)
    have e1 : IntKind.i64.wrap (i + 1) = i + 1 := w64 (by omega) (by omega)
    refine ⟨⟨⟨l, IntKind.i64.wrap (i + 1), IntKind.i64.wrap (IntKind.i64.wrap (q * 6364136223846793005) + 1442695040888963407), hb, by omega, by omega, wrap_lo _, wrap_hi _⟩, _, rfl, rfl, (and255 _).1, (and255 _).2⟩⟩
  · conv => whnf
    exact ⟨⟨⟨l, i, _, hb, h1, h2, wrap_lo _, wrap_hi _⟩, _, rfl, rfl, (and255 _).1, (and255 _).2⟩⟩
theorem l01Byte_ok : FnOk Tryd.prog 28 cByte := fnOk_of fun x => fnX_at tab_ok (SOk.nil) mixed (fn := Tryd.f28) (code := body Tryd.f28) ⟨Tryd.func28, rfl, by kernel_rfl, by kernel_rfl, by kernel_rfl, by kernel_rfl⟩ (ev_l01Byte x)
structure BelowX where
  c : CurX
  n : Int
  h : n ≤ 9223372036854775807
def cBelow : Con := { X := BelowX, params := [(.mut, false), (.rd, false)], res := [false], resOwn := true, ins := fun x => [[x.c.d], [.lf (.int .i64 x.n)]], post := fun x outs r => ∃ (c : CurX) (v : Int), outs = [[c.d]] ∧ r = [[.lf (.int .i64 v)]] ∧ 0 ≤ v ∧ (0 < x.n → v < x.n) ∧ (x.n ≤ 0 → v = 0) }
theorem ev_l01Below : ∀ x, evFnX tab [(28, cByte)] cBelow Tryd.f19 (body Tryd.f19) x := by
  rintro ⟨c, n, h⟩
  conv => whnf
  refine br2 (fun h5 => ?_) (fun h5 => ?_)
  · have h5' : n ≤ 0 := of_decide_eq_true h5
    conv => whnf
    exact ⟨⟨c, 0, rfl, rfl, by omega, fun h => absurd h (show ¬ 0 < n by omega), fun _ => rfl⟩⟩
  have h5' : 0 < n := by have h6 : ¬ n ≤ 0 := of_decide_eq_false h5; omega
  have hrem : ∀ a : Int, 0 ≤ a → 0 ≤ a.tmod n ∧ a.tmod n < n := fun a ha => ⟨Int.tmod_nonneg _ ha, Int.tmod_lt_of_pos _ h5'⟩
  conv => whnf
  refine br2 (fun h6 => ?_) (fun h6 => ?_)
  · conv => whnf
    refine ⟨c, rfl, ?_⟩
    rintro _ _ ⟨c1, v1, rfl, rfl, a1, b1⟩
    conv => whnf
    refine br2 (fun h7 => ?_) (fun h7 => ?_)
    · exfalso; have : n = 0 := of_decide_eq_true h7; omega
    conv => whnf
    exact ⟨⟨c1, v1.tmod n, rfl, rfl, (hrem v1 a1).1, fun _ => (hrem v1 a1).2, fun h => absurd h (show ¬ n ≤ 0 by omega)⟩⟩
  conv => whnf
  refine ⟨c, rfl, ?_⟩
  rintro _ _ ⟨c1, v1, rfl, rfl, a1, b1⟩
  conv => whnf
  refine ⟨c1, rfl, ?_⟩
  rintro _ _ ⟨c2, v2, rfl, rfl, a2, b2⟩
  conv => whnf
  refine ⟨c2, rfl, ?_⟩
  rintro _ _ ⟨c3, v3, rfl, rfl, a3, b3⟩
  conv => whnf
  refine ⟨c3, rfl, ?_⟩
  rintro _ _ ⟨c4, v4, rfl, rfl, a4, b4⟩
  conv => whnf
  refine br2 (fun h7 => ?_) (fun h7 => ?_)
  · exfalso; have : n = 0 := of_decide_eq_true h7; omega
  conv => whnf
  have e1 : 0 ≤ IntKind.i64.wrap (IntKind.i64.wrap (IntKind.i64.wrap (IntKind.i64.wrap (v1 * 16777216) + IntKind.i64.wrap (v2 * 65536)) + IntKind.i64.wrap (v3 * 256)) + v4) := by
    rw [w64 (n := v1 * 16777216) (by omega) (by omega), w64 (n := v2 * 65536) (by omega) (by omega), w64 (n := v3 * 256) (by omega) (by omega), w64 (n := v1 * 16777216 + v2 * 65536) (by omega) (by omega),
      w64 (n := v1 * 16777216 + v2 * 65536 + v3 * 256) (by omega) (by omega), w64 (by omega) (by omega)]
    omega
  exact ⟨⟨c4, _, rfl, rfl, (hrem _ e1).1, fun _ => (hrem _ e1).2, fun h => absurd h (show ¬ n ≤ 0 by omega)⟩⟩
theorem l01Below_ok : FnOk Tryd.prog 19 cBelow := fnOk_of fun x => fnX_at tab_ok (SOk.cons l01Byte_ok SOk.nil) mixed (fn := Tryd.f19) (code := body Tryd.f19) ⟨Tryd.func19, rfl, by kernel_rfl, by kernel_rfl, by kernel_rfl, by kernel_rfl⟩ (ev_l01Below x)
/-- A draw: what it tells has property P. -/
def cDraw {α : Type} (g : Bool) (enc : α → List D) (P : α → Prop) : Con := { X := CurX, params := [(.mut, false)], res := [g], resOwn := true, ins := fun c => [[c.d]], post := fun _ outs r => ∃ (c : CurX) (a : α), outs = [[c.d]] ∧ r = [enc a] ∧ P a }
def intE (n : Int) : List D := [.lf (.int .i64 n)]
def strE (s : ByteArray) : List D := [.lf (.string s)]
/-- One of a few texts, of a few numbers. -/
def strEls (k : Nat) : List (List V) → Bool
  | [] => true
  | [.lf (.string s)] :: r => match Nat.ble s.size k with | true => strEls k r | false => false
  | _ => false
def intEls : List (List V) → Bool
  | [] => true
  | [.lf (.int .i64 n)] :: r => match decide (-9223372036854775808 ≤ n), decide (n ≤ 9223372036854775807) with | true, true => intEls r | _, _ => false
  | _ => false
theorem exStr (k : Nat) {els : List (List V)} {i : Nat} {Q : List V → Prop} (ha : strEls k els = true) (hi : i < els.length) (h : ∀ s : ByteArray, s.size ≤ k → Q [.lf (.string s)]) : ex (nth els i) Q := by
  induction els generalizing i with
  | nil => simp at hi
  | cons e r ih =>
    unfold strEls at ha
    split at ha
    · rename_i h0; cases h0
    · rename_i s r' h0
      cases h0
      split at ha
      · rename_i hs
        cases i with
        | zero => exact h s (Nat.le_of_ble_eq_true hs)
        | succ i => exact ih ha (by simpa using hi)
      · cases ha
    · cases ha
theorem exInt {els : List (List V)} {i : Nat} {Q : List V → Prop} (ha : intEls els = true) (hi : i < els.length) (h : ∀ n : Int, -9223372036854775808 ≤ n → n ≤ 9223372036854775807 → Q [.lf (.int .i64 n)]) : ex (nth els i) Q := by
  induction els generalizing i with
  | nil => simp at hi
  | cons e r ih =>
    unfold intEls at ha
    split at ha
    · rename_i h0; cases h0
    · rename_i s r' h0
      cases h0
      split at ha
      · rename_i hs1 hs2
        cases i with
        | zero => exact h s (of_decide_eq_true hs1) (of_decide_eq_true hs2)
        | succ i => exact ih ha (by simpa using hi)
      · cases ha
    · cases ha
def intP (n : Int) : Prop := -9223372036854775808 ≤ n ∧ n ≤ 9223372036854775807
def strP (k : Nat) (s : ByteArray) : Prop := s.size ≤ k
theorem useBelow {c : CurX} {n : Int} {ds : List (List D)} {Q : List (List D) → List (List D) → Prop} (hd : [[c.d], [.lf (.int .i64 n)]] = ds) (hn : n ≤ 9223372036854775807)
    (h : ∀ (c' : CurX) (v : Int), 0 ≤ v → (0 < n → v < n) → (n ≤ 0 → v = 0) → Q [[c'.d]] [[.lf (.int .i64 v)]]) : ∃ x, cBelow.ins x = ds ∧ ∀ outs res, cBelow.post x outs res → Q outs res := by
  refine ⟨⟨c, n, hn⟩, hd, ?_⟩
  rintro _ _ ⟨c1, v, rfl, rfl, a1, a2, a3⟩
  exact h c1 v a1 a2 a3
theorem useDraw {α : Type} {g : Bool} {enc : α → List D} {P : α → Prop} {c : CurX} {ds : List (List D)} {Q : List (List D) → List (List D) → Prop} (hd : [[c.d]] = ds)
    (h : ∀ (c' : CurX) (a : α), P a → Q [[c'.d]] [enc a]) : ∃ x, (cDraw g enc P).ins x = ds ∧ ∀ outs res, (cDraw g enc P).post x outs res → Q outs res := by
  refine ⟨c, hd, ?_⟩
  rintro _ _ ⟨c1, a, rfl, rfl, a1⟩
  exact h c1 a a1
theorem ev_l01Raw : ∀ x, evFnX tab [(19, cBelow)] (cDraw false intE intP) Tryd.f27 (body Tryd.f27) x := by
  intro c
  conv => whnf
  refine useBelow (c := c) (n := 10) rfl (by decide) fun c k k1 k2 _ => ?_
  have done : ∀ (c : CurX) (v : Int), intP v → ∃ (c' : CurX) (a : Int), [[c.d]] = [[c'.d]] ∧ [[D.lf (.int .i64 v)]] = [intE a] ∧ intP a := fun c v h => ⟨c, v, rfl, rfl, h⟩
  conv => whnf
  refine br2 (fun _ => ?_) (fun _ => ?_)
  · conv => whnf
    refine useBelow (c := c) (n := 20) rfl (by decide) fun c v a1 a2 _ => ?_
    replace a2 : v < 20 := a2 (by decide)
    conv => whnf
    exact ⟨done _ _ ⟨by omega, by omega⟩⟩
  conv => whnf
  refine br2 (fun _ => ?_) (fun _ => ?_)
  · conv => whnf
    refine useBelow (c := c) (n := 3) rfl (by decide) fun c v a1 a2 _ => ?_
    conv => whnf
    exact ⟨done _ _ ⟨wrap_lo _, wrap_hi _⟩⟩
  conv => whnf
  refine br2 (fun _ => ?_) (fun _ => ?_)
  · conv => whnf
    refine useBelow (c := c) (n := 2) rfl (by decide) fun c v a1 a2 _ => ?_
    conv => whnf
    exact ⟨done _ _ ⟨wrap_lo _, wrap_hi _⟩⟩
  conv => whnf
  refine br2 (fun _ => ?_) (fun _ => ?_)
  · conv => whnf
    refine useBelow (c := c) (n := 2) rfl (by decide) fun c v a1 a2 _ => ?_
    conv => whnf
    exact ⟨done _ _ ⟨wrap_lo _, wrap_hi _⟩⟩
  conv => whnf
  refine br2 (fun _ => ?_) (fun _ => ?_)
  · conv => whnf
    refine useBelow (c := c) (n := 2) rfl (by decide) fun c v a1 a2 _ => ?_
    conv => whnf
    exact ⟨done _ _ ⟨wrap_lo _, wrap_hi _⟩⟩
  conv => whnf
  refine br2 (fun _ => ?_) (fun _ => ?_)
  · conv => whnf
    refine useBelow (c := c) (n := 8) rfl (by decide) fun c v a1 a2 _ => ?_
    replace a2 : v < 8 := a2 (by decide)
    conv => whnf
    refine ⟨a1, a2, ?_⟩
    conv => whnf
    refine exInt ?_ ?_ fun s hs1 hs2 => ?_
    · rfl
    · show v.toNat < 8; omega
    conv => whnf
    exact ⟨done _ _ ⟨hs1, hs2⟩⟩
  conv => whnf
  refine useBelow (c := c) (n := 65536) rfl (by decide) fun c v a1 a2 _ => ?_
  conv => whnf
  exact ⟨done _ _ ⟨wrap_lo _, wrap_hi _⟩⟩
theorem l01Raw_ok : FnOk Tryd.prog 27 (cDraw false intE intP) := fnOk_of fun x => fnX_at tab_ok (SOk.cons l01Below_ok SOk.nil) mixed (fn := Tryd.f27) (code := body Tryd.f27) ⟨Tryd.func27, rfl, by kernel_rfl, by kernel_rfl, by kernel_rfl, by kernel_rfl⟩ (ev_l01Raw x)
def rngE (r : RngX) : List D := r.ds
def rngP (k : Nat) (r : RngX) : Prop := r.lo.size ≤ k ∧ r.hi.size ≤ k
structure PtX where
  s : ByteArray
  h : s.size ≤ 1000
def cPoint : Con := relC PtX [(.rd, false)] [true] (fun x => [[.lf (.string x.s)]]) (fun x r => ∃ q : RngX, r = [q.ds] ∧ rngP (x.s.size + 1) q)
end Go.Vm
namespace Go.Vm
open Go.Proofs
set_option maxRecDepth 100000
set_option linter.unusedVariables false
set_option linter.unusedSimpArgs false

def txE (x : TxX) : List D := x.ds
def txP (x : TxX) : Prop := intP x.c ∧ intP x.e ∧ intP x.n
theorem ev_l07Tx : ∀ x, evFnX tab [(19, cBelow)] (cDraw true txE txP) Tryd.f26 (body Tryd.f26) x := by
  intro c
  conv => whnf
  refine useBelow (c := c) (n := 3) rfl (by decide) fun c v a1 a2 _ => ?_
  replace a2 : v < 3 := a2 (by decide)
  conv => whnf
  refine useBelow (c := c) (n := 2) rfl (by decide) fun c v' b1 b2 _ => ?_
  conv => whnf
  refine useBelow (c := c) (n := 3) rfl (by decide) fun c v'' c1 c2 _ => ?_
  conv => whnf
  have e0 : intP v := ⟨by omega, by omega⟩
  exact ⟨⟨c, ⟨v, _, _⟩, rfl, rfl, e0, ⟨wrap_lo _, wrap_hi _⟩, ⟨wrap_lo _, wrap_hi _⟩⟩⟩
theorem l07Tx_ok : FnOk Tryd.prog 26 (cDraw true txE txP) := fnOk_of fun x => fnX_at tab_ok (SOk.cons l01Below_ok SOk.nil) mixed (fn := Tryd.f26) (code := body Tryd.f26) ⟨Tryd.func26, rfl, by kernel_rfl, by kernel_rfl, by kernel_rfl, by kernel_rfl⟩ (ev_l07Tx x)
theorem ev_l07AnyTx : ∀ x, evFnX tab [(19, cBelow), (26, (cDraw true txE txP)), (27, (cDraw false intE intP))] (cDraw true txE txP) Tryd.f18 (body Tryd.f18) x := by
  intro c
  conv => whnf
  refine useDraw (c := c) rfl fun c t ht => ?_
  obtain ⟨t1, t2, t3⟩ := t
  obtain ⟨p1, p2, p3⟩ : intP t1 ∧ intP t2 ∧ intP t3 := ht
  conv => whnf
  refine useBelow (c := c) (n := 12) rfl (by decide) fun c k k1 k2 k3 => ?_
  clear k1 k2 k3
  have fin : ∀ (c : CurX) (a b d : Int), intP a → intP b → intP d → ∃ (c' : CurX) (r : TxX), [[c.d]] = [[c'.d]] ∧ [[D.lf (.int .i64 a), D.lf (.int .i64 b), D.lf (.int .i64 d)]] = [txE r] ∧ txP r := fun c a b d h1 h2 h3 => ⟨c, ⟨a, b, d⟩, rfl, rfl, h1, h2, h3⟩
  have g1 : (k == 0) = true → k = 0 := fun h => eq_of_beq h
  have g2 : (k == 1) = true → k = 1 := fun h => eq_of_beq h
  have g3 : (k == 2) = true → k = 2 := fun h => eq_of_beq h
  have ints : ∀ (a b d q : Int), intP a → intP b → intP d → intP q → intEls [[.lf (.int .i64 a)], [.lf (.int .i64 b)], [.lf (.int .i64 d)], [.lf (.int .i64 q)]] = true := by
    rintro a b d q ⟨h1, h2⟩ ⟨h3, h4⟩ ⟨h5, h6⟩ ⟨h7, h8⟩
    simp [intEls, h1, h2, h3, h4, h5, h6, h7, h8]
  have lit : ∀ n : Int, -2000 ≤ n → n ≤ 2000 → intP n := fun n h1 h2 => ⟨by omega, by omega⟩
  conv => whnf
  refine br2 (fun h0 => ?_) (fun h0 => ?_)
  · obtain rfl := g1 h0
    conv => whnf
    refine useDraw (c := c) rfl fun c a ha => ?_
    conv => whnf
    refine useBelow (c := c) (n := 4) rfl (by decide) fun c v a1 a2 _ => ?_
    replace a2 : v < 4 := a2 (by decide)
    conv => whnf
    refine ⟨a1, a2, ?_⟩
    conv => whnf
    refine exInt ?_ ?_ fun s h1 h2 => ?_
    · exact ints 7 8 (-1) a (lit _ (by decide) (by decide)) (lit _ (by decide) (by decide)) (lit _ (by decide) (by decide)) ha
    · show v.toNat < 4; omega
    conv => whnf
    exact ⟨fin _ _ _ _ ⟨h1, h2⟩ p2 p3⟩
  conv => whnf
  refine br2 (fun h0 => ?_) (fun h0 => ?_)
  · obtain rfl := g2 h0
    conv => whnf
    refine useDraw (c := c) rfl fun c a ha => ?_
    conv => whnf
    refine useBelow (c := c) (n := 4) rfl (by decide) fun c v a1 a2 _ => ?_
    replace a2 : v < 4 := a2 (by decide)
    conv => whnf
    refine ⟨a1, a2, ?_⟩
    conv => whnf
    refine exInt ?_ ?_ fun s h1 h2 => ?_
    · exact ints 0 999 1000 a (lit _ (by decide) (by decide)) (lit _ (by decide) (by decide)) (lit _ (by decide) (by decide)) ha
    · show v.toNat < 4; omega
    conv => whnf
    exact ⟨fin _ _ _ _ p1 ⟨h1, h2⟩ p3⟩
  conv => whnf
  refine br2 (fun h0 => ?_) (fun h0 => ?_)
  · conv => whnf
    refine useDraw (c := c) rfl fun c a ha => ?_
    conv => whnf
    refine useBelow (c := c) (n := 4) rfl (by decide) fun c v a1 a2 _ => ?_
    replace a2 : v < 4 := a2 (by decide)
    conv => whnf
    refine ⟨a1, a2, ?_⟩
    conv => whnf
    refine exInt ?_ ?_ fun s h1 h2 => ?_
    · exact ints 0 999 1000 a (lit _ (by decide) (by decide)) (lit _ (by decide) (by decide)) (lit _ (by decide) (by decide)) ha
    · show v.toNat < 4; omega
    conv => whnf
    exact ⟨fin _ _ _ _ p1 p2 ⟨h1, h2⟩⟩
  conv => whnf
  exact ⟨fin _ _ _ _ p1 p2 p3⟩
theorem l07AnyTx_ok : FnOk Tryd.prog 18 (cDraw true txE txP) := fnOk_of fun x => fnX_at tab_ok (SOk.cons l01Below_ok (SOk.cons l07Tx_ok (SOk.cons l01Raw_ok SOk.nil))) mixed (fn := Tryd.f18) (code := body Tryd.f18) ⟨Tryd.func18, rfl, by kernel_rfl, by kernel_rfl, by kernel_rfl, by kernel_rfl⟩ (ev_l07AnyTx x)
end Go.Vm
namespace Go.Vm
open Go.Proofs
set_option maxRecDepth 100000
set_option linter.unusedVariables false
set_option linter.unusedSimpArgs false

def afterB (a b : TxX) : Bool := txOkB a && txOkB b && a.c == b.c && (decide (a.e > b.e) || (a.e == b.e && decide (a.n > b.n)))
theorem ev_iTxAfter : ∀ x, evFnX tab [(20, cTxOk)] (pureC (TxX × TxX) [(.rd, true), (.rd, true)] [false] (fun x => [x.1.ds, x.2.ds]) (fun x => [[.lf (.bool (afterB x.1 x.2))]])) Tryd.f11 (body Tryd.f11) x := by
  rintro ⟨⟨c, e, n⟩, ⟨c', e', n'⟩⟩
  repeat' ((conv => whnf); first
    | refine br2 (fun h => ?_) (fun h => ?_)
    | (refine ⟨⟨c, e, n⟩, rfl, ?_⟩; rintro _ _ ⟨rfl, rfl⟩)
    | (refine ⟨⟨c', e', n'⟩, rfl, ?_⟩; rintro _ _ ⟨rfl, rfl⟩))
  all_goals (conv => whnf)
  all_goals refine ⟨⟨rfl, ?_⟩⟩
  all_goals show _ = [[D.lf (.bool (afterB ⟨c, e, n⟩ ⟨c', e', n'⟩))]]
  all_goals simp_all [afterB]
theorem iTxAfter_ok : FnOk Tryd.prog 11 (pureC (TxX × TxX) [(.rd, true), (.rd, true)] [false] (fun x => [x.1.ds, x.2.ds]) (fun x => [[.lf (.bool (afterB x.1 x.2))]])) := fnOk_of fun x => fnX_at tab_ok (SOk.cons iTxOk_ok SOk.nil) mixed (fn := Tryd.f11) (code := body Tryd.f11) ⟨Tryd.func11, rfl, by kernel_rfl, by kernel_rfl, by kernel_rfl, by kernel_rfl⟩ (ev_iTxAfter x)
def cDrawAfter : Con := { X := CodeX, params := [(.keep, false)], res := [true, true], resOwn := true, ins := fun c => [[.row 1 encB c.b]], post := fun _ outs r => outs = [] ∧ ∃ a b : TxX, r = [a.ds, b.ds] }
theorem ev_drawTxAfter : ∀ x, evFnX tab [(17, cNew), (19, cBelow), (18, (cDraw true txE txP))] cDrawAfter Tryd.f8 (body Tryd.f8) x := by
  rintro ⟨b, hb⟩
  conv => whnf
  refine ⟨⟨b, hb⟩, rfl, ?_⟩
  rintro _ _ ⟨rfl, c, rfl⟩
  conv => whnf
  refine useDraw (c := c) rfl fun c x _ => ?_
  conv => whnf
  refine useDraw (c := c) rfl fun c y _ => ?_
  conv => whnf
  refine useBelow (c := c) (n := 2) rfl (by decide) fun c v a1 a2 _ => ?_
  have fin : ∀ a b d e f g : Int, ([] : List (List D)) = [] ∧ ∃ p q : TxX, [[D.lf (.int .i64 a), .lf (.int .i64 b), .lf (.int .i64 d)], [D.lf (.int .i64 e), .lf (.int .i64 f), .lf (.int .i64 g)]] = [p.ds, q.ds] := fun a b d e f g => ⟨rfl, ⟨a, b, d⟩, ⟨e, f, g⟩, rfl⟩
  conv => whnf
  refine br2 (fun h => ?_) (fun h => ?_)
  · conv => whnf
    repeat (refine rc_i rfl ?_; conv => whnf)
    exact ⟨fin _ _ _ _ _ _⟩
  · conv => whnf
    repeat (refine rc_i rfl ?_; conv => whnf)
    exact ⟨fin _ _ _ _ _ _⟩
theorem drawTxAfter_ok : FnOk Tryd.prog 8 cDrawAfter := fnOk_of fun x => fnX_at tab_ok (SOk.cons l01New_ok (SOk.cons l01Below_ok (SOk.cons l07AnyTx_ok SOk.nil))) mixed (fn := Tryd.f8) (code := body Tryd.f8) ⟨Tryd.func8, rfl, by kernel_rfl, by kernel_rfl, by kernel_rfl, by kernel_rfl⟩ (ev_drawTxAfter x)
structure LawX where
  b : List UInt8
def cLawB : Con := { X := LawX, params := [(.keep, false)], res := [false], resOwn := true, ins := fun c => [[.row 1 encB c.b]], post := fun _ outs r => outs = [] ∧ r = [[.lf (.bool true)]] }
theorem txT_emp {x : TxX} : strEq (txT x) ⟨#[]⟩ = !txOkB x := by
  cases h : txOkB x with
  | true =>
    have h2 := (txT_parts h).1
    have h3 : txT x ≠ ⟨#[]⟩ := fun e => by rw [e, empty_parts] at h2; have h6 := congrArg List.length h2; simp at h6
    rw [strEq_no.2 h3]; rfl
  | false => rw [txT, if_neg (by rw [h]; simp), strEq_refl]; rfl
def txS (a b : TxX) : Bool := a.c == b.c && (a.e == b.e && (a.n == b.n && true))
theorem after_law {a b : TxX} (ha : txOkB a = true) (hb : txOkB b = true) (hc : a.c = b.c) : ((afterB a b != afterB b a) == !(txS a b)) = true := by
  obtain ⟨c, e, n⟩ := a
  obtain ⟨c', e', n'⟩ := b
  simp only at hc
  subst hc
  simp only [afterB, ha, hb, txS]
  by_cases h1 : e = e'
  · subst h1
    by_cases h2 : n = n'
    · subst h2; simp
    · rcases Int.lt_or_gt_of_ne h2 with h3 | h3
      · have h4 : ¬ n' < n := by omega
        simp [h2, h3, h4]
      · have h4 : ¬ n < n' := by omega
        simp [h2, h3, h4]
  · rcases Int.lt_or_gt_of_ne h1 with h3 | h3
    · have h4 : ¬ e' < e := by omega
      have h5 : e' ≠ e := fun h => h1 h.symm
      have h6 : (e == e') = false := beq_false_of_ne h1
      have h7 : (e' == e) = false := beq_false_of_ne h5
      simp [h3, h4, h6, h7]
    · have h4 : ¬ e < e' := by omega
      have h5 : e' ≠ e := fun h => h1 h.symm
      have h6 : (e == e') = false := beq_false_of_ne h1
      have h7 : (e' == e) = false := beq_false_of_ne h5
      simp [h3, h4, h6, h7]
theorem after_no {a b : TxX} (h : ¬ (txOkB a = true ∧ txOkB b = true ∧ a.c = b.c)) : afterB a b = false ∧ afterB b a = false := by
  refine ⟨?_, ?_⟩
  · cases h1 : afterB a b with
    | false => rfl
    | true => simp [afterB] at h1; exact absurd ⟨h1.1.1.1, h1.1.1.2, h1.1.2⟩ h
  · cases h1 : afterB b a with
    | false => rfl
    | true => simp [afterB] at h1; exact absurd ⟨h1.1.1.2, h1.1.1.1, h1.1.2.symm⟩ h
theorem ev_lawTx : ∀ x, evFnX tab [(8, cDrawAfter), (9, cTxText), (10, cTxOk), (6, cTextTx), (11, (pureC (TxX × TxX) [(.rd, true), (.rd, true)] [false] (fun x => [x.1.ds, x.2.ds]) (fun x => [[.lf (.bool (afterB x.1 x.2))]])))] cLawB Tryd.f4 (body Tryd.f4) x := by
  rintro ⟨l⟩
  conv => whnf
  intro _
  conv => whnf
  refine br2 (fun h0 => ?_) (fun h0 => ?_)
  · conv => whnf
    exact ⟨⟨rfl, rfl⟩⟩
  have hb : l.length ≤ 1048576 := by have h1 : ¬ (l.length : Int) > 1048576 := of_decide_eq_false h0; omega
  clear h0
  conv => whnf
  refine ⟨⟨l, hb⟩, rfl, ?_⟩
  rintro _ _ ⟨rfl, a, b, rfl⟩
  conv => whnf
  refine ⟨a, rfl, ?_⟩
  rintro _ _ ⟨rfl, rfl⟩
  conv => whnf
  refine ⟨a, rfl, ?_⟩
  rintro _ _ ⟨rfl, rfl⟩
  conv => whnf
  have hsz : (txT a).size ≤ 1048576 := by
    cases h : txOkB a with
    | true => have := (txT_parts h).2; omega
    | false => rw [txT, if_neg (by rw [h]; simp)]; decide
  have e1 : ((!strEq (txT a) ⟨#[]⟩) != txOkB a) = false := by rw [txT_emp]; simp
  refine br2 (fun h => absurd (e1.symm.trans h) (by simp)) (fun _ => ?_)
  conv => whnf
  refine ⟨⟨txT a, hsz⟩, rfl, ?_⟩
  rintro _ _ ⟨rfl, x, ok, rfl, e2⟩
  cases ha : txOkB a with
  | true =>
    obtain ⟨rfl, rfl⟩ := e2.all a ha rfl
    conv => whnf
    have e3 : (true != (!strEq (txT x) ⟨#[]⟩)) = false := by rw [txT_emp, ha]; rfl
    refine br2 (fun h => absurd (e3.symm.trans h) (by simp)) (fun _ => ?_)
    conv => whnf
    refine br2 (fun h => ?_) (fun _ => ?_)
    · exfalso
      replace h : (!(x.c == x.c && (x.e == x.e && (x.n == x.n && true)))) = true := h
      simp at h
    conv => whnf
    refine ⟨x, rfl, ?_⟩
    rintro _ _ ⟨rfl, rfl⟩
    conv => whnf
    have z0 : (!txOkB x) = false := by rw [ha]; rfl
    refine br2 (fun h => absurd (z0.symm.trans h) (by simp)) (fun _ => ?_)
    conv => whnf
    refine ⟨b, rfl, ?_⟩
    rintro _ _ ⟨rfl, rfl⟩
    conv => whnf
    refine br2 (fun h => ?_) (fun h => ?_)
    · have hbn : txOkB b = false := by simpa using h
      conv => whnf
      refine ⟨(x, b), rfl, ?_⟩
      rintro _ _ ⟨rfl, rfl⟩
      conv => whnf
      have z1 : (!afterB x b) = true := by rw [(after_no fun h => by rw [hbn] at h; cases h.2.1).1]; rfl
      refine br2 (fun _ => ?_) (fun h => absurd (z1.symm.trans h) (by simp))
      conv => whnf
      refine ⟨(b, x), rfl, ?_⟩
      rintro _ _ ⟨rfl, rfl⟩
      conv => whnf
      refine ⟨⟨rfl, ?_⟩⟩
      show [[D.lf (.bool (!afterB b x))]] = _
      rw [(after_no fun h => by rw [hbn] at h; cases h.2.1).2]; rfl
    have hbo : txOkB b = true := by simpa using h
    conv => whnf
    refine br2 (fun h => ?_) (fun h => ?_)
    · have hcn : x.c ≠ b.c := by
        replace h : (x.c != b.c) = true := h
        simpa using h
      conv => whnf
      refine ⟨(x, b), rfl, ?_⟩
      rintro _ _ ⟨rfl, rfl⟩
      conv => whnf
      have z1 : (!afterB x b) = true := by rw [(after_no fun h => hcn h.2.2).1]; rfl
      refine br2 (fun _ => ?_) (fun h => absurd (z1.symm.trans h) (by simp))
      conv => whnf
      refine ⟨(b, x), rfl, ?_⟩
      rintro _ _ ⟨rfl, rfl⟩
      conv => whnf
      refine ⟨⟨rfl, ?_⟩⟩
      show [[D.lf (.bool (!afterB b x))]] = _
      rw [(after_no fun h => hcn h.2.2).2]; rfl
    have hcc : x.c = b.c := by
      replace h : (x.c != b.c) = false := h
      simpa using h
    conv => whnf
    repeat (refine rc_i rfl ?_; conv => whnf)
    refine ⟨(x, b), rfl, ?_⟩
    rintro _ _ ⟨rfl, rfl⟩
    conv => whnf
    repeat (refine rc_i rfl ?_; conv => whnf)
    refine ⟨(b, x), rfl, ?_⟩
    rintro _ _ ⟨rfl, rfl⟩
    conv => whnf
    repeat (refine rc_i rfl ?_; conv => whnf)
    refine ⟨⟨rfl, ?_⟩⟩
    show [[D.lf (.bool ((afterB x b != afterB b x) == !(txS x b)))]] = _
    rw [after_law ha hbo hcc]
  | false =>
    have e4 : txT a = ⟨#[]⟩ := by rw [txT, if_neg (by rw [ha]; simp)]
    obtain rfl : ok = false := by
      cases ok with
      | false => rfl
      | true =>
        obtain ⟨y1, y2⟩ := e2.yes rfl
        have y3 := txT_emp (x := x)
        replace y1 : txT x = txT a := y1
        rw [y1, e4, y2, strEq_refl] at y3
        cases y3
    conv => whnf
    have e3 : (false != (!strEq (txT a) ⟨#[]⟩)) = false := by rw [txT_emp, ha]; rfl
    refine br2 (fun h => absurd (e3.symm.trans h) (by simp)) (fun _ => ?_)
    conv => whnf
    refine ⟨a, rfl, ?_⟩
    rintro _ _ ⟨rfl, rfl⟩
    conv => whnf
    have z0 : (!txOkB a) = true := by rw [ha]; rfl
    refine br2 (fun _ => ?_) (fun h => absurd (z0.symm.trans h) (by simp))
    conv => whnf
    refine ⟨(a, b), rfl, ?_⟩
    rintro _ _ ⟨rfl, rfl⟩
    conv => whnf
    have z1 : (!afterB a b) = true := by rw [(after_no fun h => by rw [ha] at h; cases h.1).1]; rfl
    refine br2 (fun _ => ?_) (fun h => absurd (z1.symm.trans h) (by simp))
    conv => whnf
    refine ⟨(b, a), rfl, ?_⟩
    rintro _ _ ⟨rfl, rfl⟩
    conv => whnf
    refine ⟨⟨rfl, ?_⟩⟩
    show [[D.lf (.bool (!afterB b a))]] = _
    rw [(after_no fun h => by rw [ha] at h; cases h.1).2]; rfl
theorem lawTx_ok : FnOk Tryd.prog 4 cLawB := fnOk_of fun x => fnX_at tab_ok (SOk.cons drawTxAfter_ok (SOk.cons iTxText_ok (SOk.cons sTxOk_ok (SOk.cons iTextTx_ok (SOk.cons iTxAfter_ok SOk.nil))))) mixed (fn := Tryd.f4) (code := body Tryd.f4) ⟨Tryd.func4, rfl, by kernel_rfl, by kernel_rfl, by kernel_rfl, by kernel_rfl⟩ (ev_lawTx x)
end Go.Vm
