/- Contracts: words. -/
import Derived.Test.YthoiahaedhnigaaVmT
namespace Go.Vm
open Go.Proofs

def body (f : Func) : Code := match f.body with | some c => c | none => .skip
/-- A function whose results are told by its parameters and that changes nothing. -/
def pureC (X : Type) (params : List (Mode × Bool)) (res : List Bool) (ins : X → List (List D)) (f : X → List (List D)) : Con :=
  { X := X, params := params, res := res, resOwn := true, ins := ins, post := fun x outs r => outs = [] ∧ r = f x }
/-- One of whose results something is known. -/
def relC (X : Type) (params : List (Mode × Bool)) (res : List Bool) (ins : X → List (List D)) (R : X → List (List D) → Prop) : Con :=
  { X := X, params := params, res := res, resOwn := true, ins := ins, post := fun x outs r => outs = [] ∧ R x r }

theorem SOk.nil {P : Program} : SOk P [] := fun p hp => by simp at hp
theorem SOk.cons {P : Program} {f : Nat} {c : Con} {S : Cons} (h : FnOk P f c) (hs : SOk P S) : SOk P ((f, c) :: S) := fun p hp => by
  rcases List.mem_cons.1 hp with rfl | hp
  · exact h
  · exact hs p hp

/-- Equality as a bool. -/
noncomputable def eqX {α : Type} (a b : α) : Bool := haveI := Classical.propDecidable (a = b); decide (a = b)
theorem eqX_iff {α : Type} {a b : α} : eqX a b = true ↔ a = b := by unfold eqX; simp
theorem eqX_no {α : Type} {a b : α} : eqX a b = false ↔ a ≠ b := by unfold eqX; simp
theorem eqX_refl {α : Type} (a : α) : eqX a a = true := eqX_iff.2 rfl
theorem b_iff {a b : Bool} : a = b ↔ (a = true ↔ b = true) := by cases a <;> cases b <;> simp

theorem w64 {n : Int} (h1 : -9223372036854775808 ≤ n) (h2 : n ≤ 9223372036854775807) : IntKind.i64.wrap n = n := by
  simp [IntKind.wrap, IntKind.bits, IntKind.signed]; omega
/-- The byte of a number. -/
def b8 (n : Int) : UInt8 := UInt8.ofNat (n % 256).toNat
theorem w8 (n : Int) : IntKind.u8.wrap n = ((b8 n).toNat : Int) := by
  simp [IntKind.wrap, IntKind.bits, IntKind.signed, b8]
  omega
theorem encB_len (a : UInt8) : (encB a).length = 1 := rfl
theorem flat_encB (a : UInt8) : flatL (encB a) = true := rfl
theorem map_b8 (n : Int) : [b8 n].map encB = [[.lf (.int .u8 (IntKind.u8.wrap n))]] := by rw [w8]; rfl

theorem u8_of {n : Int} {k : Nat} (h : n = k) (hk : k < 256) : IntKind.u8.wrap n = ((UInt8.ofNat k).toNat : Int) := by
  subst h
  rw [w8]
  congr 2
  unfold b8
  congr 1
  omega
theorem enc_u8 {n : Int} {k : Nat} (h : n = k) (hk : k < 256) : [UInt8.ofNat k].map encB = [[.lf (.int .u8 (IntKind.u8.wrap n))]] := by rw [u8_of h hk]; rfl
theorem tmodN (n : Nat) (k : Nat) : (n : Int).tmod k = ((n % k : Nat) : Int) := by rw [Int.tmod_eq_emod_of_nonneg (by omega)]; rfl
theorem tdivN (n : Nat) (k : Nat) : (n : Int).tdiv k = ((n / k : Nat) : Int) := by rw [Int.tdiv_eq_ediv_of_nonneg (by omega)]; rfl

theorem tmod128 (n : Nat) : (n : Int).tmod 128 = ((n % 128 : Nat) : Int) := tmodN n 128
theorem tdiv128 (n : Nat) : (n : Int).tdiv 128 = ((n / 128 : Nat) : Int) := tdivN n 128
theorem tmod10 (n : Nat) : (n : Int).tmod 10 = ((n % 10 : Nat) : Int) := tmodN n 10
theorem tdiv10 (n : Nat) : (n : Int).tdiv 10 = ((n / 10 : Nat) : Int) := tdivN n 10

/-- A number in base 128. -/
def varB (n : Nat) : List UInt8 := if n < 128 then [UInt8.ofNat n] else UInt8.ofNat (n % 128 + 128) :: varB (n / 128)
theorem varB_lt {n : Nat} (h : n < 128) : varB n = [UInt8.ofNat n] := by rw [varB, if_pos h]
theorem varB_ge {n : Nat} (h : ¬ n < 128) : varB n = UInt8.ofNat (n % 128 + 128) :: varB (n / 128) := by rw [varB, if_neg h]
end Go.Vm
namespace Go.Vm
open Go.Proofs
set_option maxRecDepth 100000
set_option linter.unusedVariables false
set_option linter.unusedSimpArgs false

theorem varB_le {k n : Nat} (h : n < 128 ^ k) (hk : 0 < k) : (varB n).length ≤ k := by
  have key : ∀ k n, n < 128 ^ k → 0 < k → (varB n).length ≤ k := by
    intro k
    induction k with
    | zero => intro n h h0; omega
    | succ k ih =>
      intro n h _
      by_cases hn : n < 128
      · rw [varB_lt hn]; simp
      · rw [varB_ge hn]
        rw [Nat.pow_succ] at h
        have : n / 128 < 128 ^ k := Nat.div_lt_of_lt_mul (by omega)
        have hk : 0 < k := by
          rcases Nat.eq_zero_or_pos k with rfl | h1
          · simp at h; omega
          · exact h1
        have := ih _ this hk
        simp; omega
  exact key k n h hk
theorem varB_len {n : Nat} (h : n ≤ 9223372036854775807) : (varB n).length ≤ 10 := varB_le (by omega) (by omega)
theorem varB_len6 {n : Nat} (h : n ≤ 1099511627775) : (varB n).length ≤ 6 := varB_le (by omega) (by omega)
theorem varB_pos (n : Nat) : 1 ≤ (varB n).length := by
  by_cases h : n < 128
  · rw [varB_lt h]; simp
  · rw [varB_ge h]; simp
/-- The bytes of a text; a text behind its length. -/
def bs (s : ByteArray) : List UInt8 := s.data.toList
def encT (s : ByteArray) : List UInt8 := varB s.size ++ bs s
theorem bs_len (s : ByteArray) : (bs s).length = s.size := by simp [bs]
def ofB (l : List UInt8) : ByteArray := ⟨l.toArray⟩
theorem bs_of (l : List UInt8) : bs (ofB l) = l := by simp [bs, ofB]
theorem of_bs (s : ByteArray) : ofB (bs s) = s := by simp [bs, ofB]
theorem of_size (l : List UInt8) : (ofB l).size = l.length := by rw [← bs_len, bs_of]

structure VaryX where
  l : List UInt8
  n : Nat
  hl : l.length ≤ 4294967000
  hn : n ≤ 9223372036854775807
def cVary : Con := pureC VaryX [(.take, false), (.rd, false)] [false] (fun x => [[.row 1 encB x.l], [.lf (.int .i64 x.n)]]) (fun x => [[.row 1 encB (x.l ++ varB x.n)]])

theorem ev_vary : ∀ x, evFn tab [] cVary Try.f143 (body Try.f143) x := by
  rintro ⟨l, n, hl, hn⟩
  conv => whnf
  refine ⟨fun m s h => ∃ (l' : List UInt8) (n' : Nat), l ++ varB n = l' ++ varB n' ∧ n' ≤ 9223372036854775807 ∧ m = n' ∧ s = [(0, .sl 0 none), (1, .lf (.int .i64 n'))] ∧ h = [(0, some (.row .own 1 encB l'))],
    n, [(0, 0)], [(0, .sl 0 none), (1, .lf (.int .i64 n))], [(0, some (.row .own 1 encB l))], ⟨rfl, ⟨rfl, rfl, trivial⟩, ⟨rfl, trivial⟩⟩, ⟨l, n, rfl, hn, rfl, rfl, rfl⟩, ?_⟩
  rintro m _ _ ⟨l', n', h1, h2, rfl, rfl, rfl⟩
  have hlen := congrArg List.length h1
  have hv := varB_len hn
  simp only [List.length_append] at hlen
  conv => whnf
  refine br2 (fun h3 => ?_) (fun h3 => ?_)
  · have h3' : ¬ m < 128 := by simp at h3; omega
    have hm : ((m : Int).tmod 128) = ((m % 128 : Nat) : Int) := tmodN m 128
    have hd : ((m : Int).tdiv 128) = ((m / 128 : Nat) : Int) := tdivN m 128
    rw [varB_ge h3'] at h1 hlen
    simp only [List.length_cons] at hlen
    conv => whnf
    refine ⟨[UInt8.ofNat (m % 128 + 128)], enc_u8 (by rw [hm, w64] <;> omega) (by omega), ?_, ?_⟩
    · show l'.length + 1 ≤ 4294967296; omega
    conv => whnf
    refine ⟨m / 128, [(208, 0)], [(0, .sl 0 none), (1, .lf (.int .i64 (m / 128 : Nat)))], [(0, some (.row .own 1 encB (l' ++ [UInt8.ofNat (m % 128 + 128)])))], by omega, ⟨rfl, ⟨rfl, ?_, trivial⟩, ⟨rfl, trivial⟩⟩, _, _, ?_, ?_, rfl, rfl, rfl⟩
    · show V.lf (.int .i64 (IntKind.i64.wrap ((m : Int).tdiv 128))) = _
      rw [hd, w64] <;> omega
    · rw [h1]; simp
    · omega
  · have h3' : m < 128 := by simp at h3; omega
    rw [varB_lt h3'] at h1 hlen
    simp at hlen
    conv => whnf
    refine ⟨[UInt8.ofNat m], enc_u8 rfl (by omega), ?_, ?_⟩
    · show l'.length + 1 ≤ 4294967296; omega
    conv => whnf
    refine ⟨⟨rfl, ?_⟩⟩
    show _ = [[D.row 1 encB (l ++ varB n)]]
    rw [h1]; rfl
theorem vary_ok : FnOk Try.prog 143 cVary := fnOk_of fun x => fn_at tab_ok (SOk.nil) mixed (fn := Try.f143) (code := body Try.f143) ⟨Try.func143, rfl, by kernel_rfl, by kernel_rfl, by kernel_rfl, by kernel_rfl⟩ (ev_vary x)

structure TextX where
  l : List UInt8
  s : ByteArray
  hl : l.length ≤ 4000000000
  hs : s.size ≤ 100000000
def cText : Con := pureC TextX [(.take, false), (.rd, false)] [false] (fun x => [[.row 1 encB x.l], [.lf (.string x.s)]]) (fun x => [[.row 1 encB (x.l ++ encT x.s)]])
theorem ev_iText : ∀ x, evFn tab [(143, cVary)] cText Try.f98 (body Try.f98) x := by
  rintro ⟨l, s, hl, hs⟩
  conv => whnf
  refine ⟨⟨l, s.size, by omega, by omega⟩, rfl, ?_⟩
  rintro _ _ ⟨rfl, rfl⟩
  conv => whnf
  refine ⟨bs s, rfl, ?_, ?_⟩
  · show (l ++ varB s.size).length + (bs s).length ≤ 4294967296
    have := varB_len (n := s.size) (by omega)
    rw [bs_len, List.length_append]; omega
  conv => whnf
  refine ⟨⟨rfl, ?_⟩⟩
  show [[D.row 1 encB (l ++ varB s.size ++ bs s)]] = _
  simp [encT, List.append_assoc]
theorem iText_ok : FnOk Try.prog 98 cText := fnOk_of fun x => fn_at tab_ok (SOk.cons vary_ok SOk.nil) mixed (fn := Try.f98) (code := body Try.f98) ⟨Try.func98, rfl, by kernel_rfl, by kernel_rfl, by kernel_rfl, by kernel_rfl⟩ (ev_iText x)

structure IX where
  n : Int
  h1 : -9223372036854775808 ≤ n
  h2 : n ≤ 9223372036854775807
def numB (n : Int) : Bool := decide (0 ≤ n) && decide (n ≤ 1099511627775)
def cNum : Con := pureC IX [(.rd, false)] [false] (fun x => [[.lf (.int .i64 x.n)]]) (fun x => [[.lf (.bool (numB x.n))]])
theorem ev_l01Num : ∀ x, evFn tab [] cNum Try.f106 (body Try.f106) x := by
  rintro ⟨n, h1, h2⟩
  repeat' ((conv => whnf); refine br2 (fun h => ?_) (fun h => ?_))
  all_goals (conv => whnf)
  all_goals refine ⟨⟨rfl, ?_⟩⟩
  all_goals simp_all [numB] <;> omega
theorem l01Num_ok : FnOk Try.prog 106 cNum := fnOk_of fun x => fn_at tab_ok (SOk.nil) mixed (fn := Try.f106) (code := body Try.f106) ⟨Try.func106, rfl, by kernel_rfl, by kernel_rfl, by kernel_rfl, by kernel_rfl⟩ (ev_l01Num x)

structure PutX where
  l : List UInt8
  n : Int
  hl : l.length ≤ 4294967000
  h1 : -9223372036854775808 ≤ n
  h2 : n ≤ 9223372036854775807
def putB (l : List UInt8) (n : Int) : Bool := numB n && decide (l.length + (varB n.toNat).length ≤ 4096)
def putL (l : List UInt8) (n : Int) : List UInt8 := if putB l n then l ++ varB n.toNat else []
def cPutVar : Con := pureC PutX [(.rd, false), (.rd, false)] [false, false] (fun x => [[.row 1 encB x.l], [.lf (.int .i64 x.n)]]) (fun x => [[.row 1 encB (putL x.l x.n)], [.lf (.bool (putB x.l x.n))]])
theorem ev_putVar : ∀ x, evFn tab [(106, cNum)] cPutVar Try.f159 (body Try.f159) x := by
  rintro ⟨l, n, hl, h1, h2⟩
  conv => whnf
  refine ⟨⟨n, h1, h2⟩, rfl, ?_⟩
  rintro _ _ ⟨rfl, rfl⟩
  conv => whnf
  refine br2 (fun h3 => ?_) (fun h3 => ?_)
  · have h3' : numB n = false := by simpa using h3
    conv => whnf
    refine ⟨1, UInt8, encB, encB_len, ?_⟩
    conv => whnf
    refine ⟨⟨rfl, ?_⟩⟩
    show _ = [[D.row 1 encB (putL l n)], [D.lf (.bool (putB l n))]]
    simp [putL, putB, h3']
  · have h3' : numB n = true := by simpa using h3
    obtain ⟨h4, h5⟩ : 0 ≤ n ∧ n ≤ 1099511627775 := by simpa [numB] using h3'
    obtain ⟨k, rfl⟩ : ∃ k : Nat, n = k := ⟨n.toNat, by omega⟩
    conv => whnf
    refine ⟨true, ?_⟩
    conv => whnf
    refine ⟨UInt8, encB, [], encB_len, rfl, ?_⟩
    conv => whnf
    refine ⟨flat_encB, l, rfl, ?_, ?_⟩
    · show 0 + l.length ≤ 4294967296; omega
    conv => whnf
    refine ⟨fun m s h => ∃ (l' : List UInt8) (n' : Nat), l ++ varB k = l' ++ varB n' ∧ n' ≤ 1099511627775 ∧ m = n' ∧ s = [(6, .sl 0 none), (1, .lf (.int .i64 n')), (4, .lf (.slice none 0 0)), (5, .lf (.bool false))] ∧ h = [(0, some (.row .own 1 encB l'))],
      k, [(192, 0)], [(6, .sl 0 none), (1, .lf (.int .i64 k)), (4, .lf (.slice none 0 0)), (5, .lf (.bool false))], [(0, some (.row .own 1 encB l))], ⟨rfl, ⟨rfl, rfl, rfl, rfl, trivial⟩, ⟨rfl, trivial⟩⟩, ⟨l, k, rfl, by omega, rfl, rfl, rfl⟩, ?_⟩
    rintro m _ _ ⟨l', n', e1, e2, rfl, rfl, rfl⟩
    have hlen := congrArg List.length e1
    have hv := varB_len6 (n := k) (by omega)
    simp only [List.length_append] at hlen
    conv => whnf
    refine br2 (fun g3 => ?_) (fun g3 => ?_)
    · have g3' : ¬ m < 128 := by simp at g3; omega
      have hm : ((m : Int).tmod 128) = ((m % 128 : Nat) : Int) := tmodN m 128
      have hd : ((m : Int).tdiv 128) = ((m / 128 : Nat) : Int) := tdivN m 128
      rw [varB_ge g3'] at e1 hlen
      simp only [List.length_cons] at hlen
      conv => whnf
      refine ⟨[UInt8.ofNat (m % 128 + 128)], enc_u8 (by rw [hm, w64] <;> omega) (by omega), ?_, ?_⟩
      · show l'.length + 1 ≤ 4294967296; omega
      conv => whnf
      refine ⟨m / 128, [(336, 0)], [(6, .sl 0 none), (1, .lf (.int .i64 (m / 128 : Nat))), (4, .lf (.slice none 0 0)), (5, .lf (.bool false))], [(0, some (.row .own 1 encB (l' ++ [UInt8.ofNat (m % 128 + 128)])))], by omega, ⟨rfl, ⟨rfl, ?_, rfl, rfl, trivial⟩, ⟨rfl, trivial⟩⟩, _, _, ?_, ?_, rfl, rfl, rfl⟩
      · show V.lf (.int .i64 (IntKind.i64.wrap ((m : Int).tdiv 128))) = _
        rw [hd, w64] <;> omega
      · rw [e1]; simp
      · omega
    · have g3' : m < 128 := by simp at g3; omega
      rw [varB_lt g3'] at e1 hlen
      simp at hlen
      conv => whnf
      refine ⟨[UInt8.ofNat m], enc_u8 rfl (by omega), ?_, ?_⟩
      · show l'.length + 1 ≤ 4294967296; omega
      conv => whnf
      intro _
      conv => whnf
      have hL : (cutL none l' ++ [UInt8.ofNat m] : List UInt8) = l ++ varB k := e1.symm
      refine br2 (fun g4 => ?_) (fun g4 => ?_)
      · conv => whnf
        refine ⟨1, UInt8, encB, encB_len, ?_⟩
        conv => whnf
        refine ⟨⟨rfl, ?_⟩⟩
        rw [hL] at g4
        have : ¬ l.length + (varB k).length ≤ 4096 := by simp at g4; omega
        show _ = [[D.row 1 encB (putL l k)], [D.lf (.bool (putB l k))]]
        simp [putL, putB, this]
      · conv => whnf
        refine ⟨⟨rfl, ?_⟩⟩
        rw [hL] at g4
        have : l.length + (varB k).length ≤ 4096 := by simp at g4; omega
        show [[D.row 1 encB (cutL none (cutL none l' ++ [UInt8.ofNat m]))], _] = [[D.row 1 encB (putL l k)], [D.lf (.bool (putB l k))]]
        rw [hL]
        simp [putL, putB, this, h3', cutL]
theorem putVar_ok : FnOk Try.prog 159 cPutVar := fnOk_of fun x => fn_at tab_ok (SOk.cons l01Num_ok SOk.nil) mixed (fn := Try.f159) (code := body Try.f159) ⟨Try.func159, rfl, by kernel_rfl, by kernel_rfl, by kernel_rfl, by kernel_rfl⟩ (ev_putVar x)
end Go.Vm
namespace Go.Vm
open Go.Proofs
set_option maxRecDepth 100000
set_option linter.unusedVariables false
set_option linter.unusedSimpArgs false

structure PutTX where
  l : List UInt8
  s : ByteArray
  hl : l.length ≤ 4000000000
  hs : s.size ≤ 100000000
def putTB (l : List UInt8) (s : ByteArray) : Bool := decide (l.length + (encT s).length ≤ 4096)
def putTL (l : List UInt8) (s : ByteArray) : List UInt8 := if putTB l s then l ++ encT s else []
def cPutText : Con := pureC PutTX [(.rd, false), (.rd, false)] [false, false] (fun x => [[.row 1 encB x.l], [.lf (.string x.s)]]) (fun x => [[.row 1 encB (putTL x.l x.s)], [.lf (.bool (putTB x.l x.s))]])
theorem ev_sPutText : ∀ x, evFn tab [(159, cPutVar)] cPutText Try.f130 (body Try.f130) x := by
  rintro ⟨l, s, hl, hs⟩
  conv => whnf
  refine ⟨⟨l, s.size, by omega, by omega, by omega⟩, rfl, ?_⟩
  rintro _ _ ⟨rfl, rfl⟩
  have hT : (encT s).length = (varB s.size).length + s.size := by simp [encT, bs_len]
  have hn : numB (s.size : Int) = true := by simp [numB]; omega
  conv => whnf
  refine br2 (fun h3 => ?_) (fun h3 => ?_)
  · have h3' : putB l s.size = false := by simpa using h3
    conv => whnf
    refine ⟨1, UInt8, encB, encB_len, ?_⟩
    conv => whnf
    refine ⟨⟨rfl, ?_⟩⟩
    have : ¬ l.length + (varB s.size).length ≤ 4096 := by simpa [putB, hn] using h3'
    have h : putTB l s = false := by simp [putTB, hT]; omega
    show _ = [[D.row 1 encB (putTL l s)], [D.lf (.bool (putTB l s))]]
    simp [putTL, h]
  · have h3' : putB l s.size = true := by simpa using h3
    have h5 : l.length + (varB s.size).length ≤ 4096 := by simpa [putB, hn] using h3'
    have hL : putL l s.size = l ++ varB s.size := by simp [putL, h3']
    conv => whnf
    intro h6
    conv => whnf
    have hw : IntKind.i64.wrap (4096 - ((l ++ varB s.size).length : Int)) = 4096 - ((l ++ varB s.size).length : Int) := by simp only [List.length_append]; rw [w64] <;> omega
    refine br2 (fun h4 => ?_) (fun h4 => ?_)
    · conv => whnf
      refine ⟨1, UInt8, encB, encB_len, ?_⟩
      conv => whnf
      refine ⟨⟨rfl, ?_⟩⟩
      replace h4 : decide ((s.size : Int) > IntKind.i64.wrap (4096 - ((putL l s.size).length : Int))) = true := h4
      rw [hL, hw] at h4
      have h : putTB l s = false := by simp [putTB, hT]; simp at h4; omega
      show _ = [[D.row 1 encB (putTL l s)], [D.lf (.bool (putTB l s))]]
      simp [putTL, h]
    · conv => whnf
      replace h4 : decide ((s.size : Int) > IntKind.i64.wrap (4096 - ((putL l s.size).length : Int))) = false := h4
      rw [hL, hw] at h4
      have h : putTB l s = true := by simp [putTB, hT]; simp at h4; omega
      refine ⟨?_, ?_⟩
      · show s.size ≤ 4294967296; omega
      conv => whnf
      refine ⟨flat_encB, bs s, rfl, ?_, ?_⟩
      · show (putL l s.size).length + (bs s).length ≤ 4294967296
        rw [hL, bs_len, List.length_append]; omega
      conv => whnf
      refine ⟨⟨rfl, ?_⟩⟩
      show [[D.row 1 encB (putL l s.size ++ bs s)], _] = [[D.row 1 encB (putTL l s)], [D.lf (.bool (putTB l s))]]
      rw [hL]
      simp [putTL, h, encT, List.append_assoc]
theorem sPutText_ok : FnOk Try.prog 130 cPutText := fnOk_of fun x => fn_at tab_ok (SOk.cons putVar_ok SOk.nil) mixed (fn := Try.f130) (code := body Try.f130) ⟨Try.func130, rfl, by kernel_rfl, by kernel_rfl, by kernel_rfl, by kernel_rfl⟩ (ev_sPutText x)

/-! Numbers read -/
structure GetX where
  l : List UInt8
  a : Int
  hl : l.length ≤ 4294967296
  h1 : -9223372036854775808 ≤ a
  h2 : a ≤ 9223372036854775807
/-- What is read: a number and the place behind it; the number that stands there. -/
def GotN (l : List UInt8) (a n nx : Int) : Prop :=
  (nx = -1 ∧ n = 0 ∨ 0 ≤ n ∧ n ≤ 1099511627775 ∧ 0 ≤ a ∧ a < nx ∧ nx ≤ l.length) ∧
    ∀ (pre : List UInt8) (v : Nat) (post : List UInt8), l = pre ++ varB v ++ post → a = pre.length → v ≤ 1099511627775 → n = v ∧ nx = pre.length + (varB v).length
def cGetVar : Con := relC GetX [(.rd, false), (.rd, false)] [false, false] (fun x => [[.row 1 encB x.l], [.lf (.int .i64 x.a)]]) (fun x r => ∃ n nx : Int, r = [[.lf (.int .i64 n)], [.lf (.int .i64 nx)]] ∧ GotN x.l x.a n nx)

theorem gotN_none {l : List UInt8} {a : Int} (h : a < 0 ∨ (l.length : Int) ≤ a) : GotN l a 0 (-1) := by
  refine ⟨.inl ⟨rfl, rfl⟩, fun pre v post h1 h2 _ => ?_⟩
  have := congrArg List.length h1
  have := varB_pos v
  simp only [List.length_append] at *
  omega

/-- The digits so far: k of them, in sum n; what is left of the number that stands there. -/
structure Dig (l : List UInt8) (a : Nat) (k n : Nat) : Prop where
  lt : n < 128 ^ k
  rest : ∀ (pre : List UInt8) (v : Nat) (post : List UInt8), l = pre ++ varB v ++ post → a = pre.length → v ≤ 1099511627775 →
    ∃ v', l.drop (a + k) = varB v' ++ post ∧ v = n + 128 ^ k * v' ∧ (varB v).length = k + (varB v').length ∧ (1 ≤ k → 1 ≤ v')

theorem Dig.zero (l : List UInt8) (a : Nat) : Dig l a 0 0 := ⟨by simp, fun pre v post h1 h2 _ => ⟨v, by rw [h1, h2]; simp, by simp, by simp, by omega⟩⟩

theorem u8_lt (d : UInt8) : d.toNat < 256 := d.toNat_lt
theorem toNat_of {k : Nat} (h : k < 256) : (UInt8.ofNat k).toNat = k := by simp [UInt8.toNat_ofNat]; omega
theorem head_eq {x d : UInt8} {r : List UInt8} (h : (x :: r)[0]? = some d) : x = d := by simpa only [List.getElem?_cons_zero, Option.some.injEq] using h
theorem Dig.step {l : List UInt8} {a k n : Nat} (h : Dig l a k n) {d : UInt8} (hd : l[a + k]? = some d) (hge : 128 ≤ d.toNat) : Dig l a (k + 1) (n + d.toNat % 128 * 128 ^ k) := by
  refine ⟨?_, fun pre v post h1 h2 h3 => ?_⟩
  · have h4 := h.lt
    have h5 : d.toNat % 128 ≤ 127 := by omega
    have h6 : d.toNat % 128 * 128 ^ k ≤ 127 * 128 ^ k := Nat.mul_le_mul_right _ h5
    rw [Nat.pow_succ]; omega
  · obtain ⟨v', e1, e2, e3, e4⟩ := h.rest pre v post h1 h2 h3
    by_cases hv : v' < 128
    · exfalso
      rw [varB_lt hv] at e1
      have : (l.drop (a + k))[0]? = some d := by simpa using hd
      rw [e1] at this
      have := head_eq this
      subst this
      rw [toNat_of (by omega)] at hge
      omega
    · rw [varB_ge hv] at e1 e3
      have : (l.drop (a + k))[0]? = some d := by simpa using hd
      rw [e1] at this
      have := head_eq this
      subst this
      refine ⟨v' / 128, ?_, ?_, ?_, fun _ => by omega⟩
      · have := congrArg (List.drop 1) e1
        rw [List.drop_drop] at this
        simpa [Nat.add_assoc] using this
      · rw [toNat_of (by omega), e2, Nat.pow_succ]
        have h6 : (v' % 128 + 128) % 128 = v' % 128 := by omega
        rw [h6]
        have h7 : v' = v' % 128 + 128 * (v' / 128) := by omega
        calc n + 128 ^ k * v' = n + 128 ^ k * (v' % 128 + 128 * (v' / 128)) := by rw [← h7]
          _ = n + v' % 128 * 128 ^ k + 128 ^ k * 128 * (v' / 128) := by rw [Nat.mul_add, Nat.mul_comm (128 ^ k) (v' % 128), Nat.mul_assoc, Nat.add_assoc]
      · simp only [List.length_cons] at e3; omega
theorem Dig.last {l : List UInt8} {a k n : Nat} (h : Dig l a k n) {d : UInt8} (hd : l[a + k]? = some d) (hlt : d.toNat < 128) {pre : List UInt8} {v : Nat} {post : List UInt8} (h1 : l = pre ++ varB v ++ post) (h2 : a = pre.length) (h3 : v ≤ 1099511627775) :
    v = n + d.toNat * 128 ^ k ∧ (varB v).length = k + 1 ∧ (1 ≤ k → 1 ≤ d.toNat) := by
  obtain ⟨v', e1, e2, e3, e4⟩ := h.rest pre v post h1 h2 h3
  have h5 : (l.drop (a + k))[0]? = some d := by simpa using hd
  by_cases hv : v' < 128
  · rw [varB_lt hv] at e1 e3
    rw [e1] at h5
    have := head_eq h5
    subst this
    rw [toNat_of (by omega), Nat.mul_comm v']
    exact ⟨e2, e3, e4⟩
  · exfalso
    rw [varB_ge hv] at e1
    rw [e1] at h5
    have := head_eq h5
    subst this
    rw [toNat_of (by omega)] at hlt
    omega
theorem Dig.out {l : List UInt8} {a k n : Nat} (h : Dig l a k n) (hk : l.length ≤ a + k ∨ 6 ≤ k) (h0 : a + k ≤ l.length) : GotN l a 0 (-1) := by
  refine ⟨.inl ⟨rfl, rfl⟩, fun pre v post h1 h2 h3 => ?_⟩
  exfalso
  have h2' : a = pre.length := by omega
  obtain ⟨v', e1, e2, e3, e4⟩ := h.rest pre v post h1 h2' h3
  have h5 := varB_pos v'
  have h6 := varB_len6 h3
  have h7 := congrArg List.length e1
  simp only [List.length_append, List.length_drop] at h7
  omega

theorem pow_le6 {k : Nat} (h : k ≤ 6) : 128 ^ k ≤ 4398046511104 := Nat.le_trans (Nat.pow_le_pow_right (by omega) h) (by decide)
/-- The digits' number has so many digits just if the last one isn't nought. -/
theorem dig_len {n k d : Nat} (hn : n < 128 ^ k) (hd : d < 128) : (varB (n + d * 128 ^ k)).length = k + 1 ↔ (d ≠ 0 ∨ k = 0) := by
  have key : ∀ k n d, n < 128 ^ k → d < 128 → ((varB (n + d * 128 ^ k)).length = k + 1 ↔ (d ≠ 0 ∨ k = 0)) ∧ (varB (n + d * 128 ^ k)).length ≤ k + 1 := by
    intro k
    induction k with
    | zero =>
      intro n d hn hd
      have : n = 0 := by simpa using hn
      subst this
      rw [varB_lt (by omega)]; simp
    | succ k ih =>
      intro n d hn hd
      rw [Nat.pow_succ] at hn
      have h1 : n / 128 < 128 ^ k := Nat.div_lt_of_lt_mul (by omega)
      obtain ⟨i1, i2⟩ := ih (n / 128) d h1 hd
      have hdiv : (n + d * 128 ^ (k + 1)) / 128 = n / 128 + d * 128 ^ k := by
        rw [Nat.pow_succ, ← Nat.mul_assoc, Nat.add_mul_div_right _ _ (by omega : 0 < 128)]
      by_cases hlt : n + d * 128 ^ (k + 1) < 128
      · rw [varB_lt hlt]
        have : d = 0 := by
          rcases Nat.eq_zero_or_pos d with h | h
          · exact h
          · exfalso
            have : 128 ^ (k + 1) ≤ d * 128 ^ (k + 1) := Nat.le_mul_of_pos_left _ h
            have : 128 ≤ 128 ^ (k + 1) := by rw [Nat.pow_succ]; have : 128 ^ 0 ≤ 128 ^ k := Nat.pow_le_pow_right (by omega) (Nat.zero_le k); simp only [Nat.pow_zero] at this; omega
            omega
        subst this
        simp
      · rw [varB_ge hlt, hdiv]
        simp only [List.length_cons]
        constructor
        · rw [show (varB (n / 128 + d * 128 ^ k)).length + 1 = k + 1 + 1 ↔ (varB (n / 128 + d * 128 ^ k)).length = k + 1 by omega, i1]
          constructor
          · rintro (h | h)
            · exact .inl h
            · subst h
              have hn1 : n < 128 := by simpa using hn
              refine .inl fun h0 => hlt (by subst h0; simpa using hn1)
          · rintro (h | h)
            · exact .inl h
            · omega
        · omega
  exact (key k n d hn hd).1
end Go.Vm
namespace Go.Vm
open Go.Proofs
set_option maxRecDepth 100000
set_option linter.unusedVariables false
set_option linter.unusedSimpArgs false

theorem gotN_of {l : List UInt8} {a k n : Nat} (h : Dig l a k n) {d : UInt8} (hd : l[a + k]? = some d) (hlt : d.toNat < 128) (hm : n + d.toNat * 128 ^ k ≤ 1099511627775) : GotN l a ((n + d.toNat * 128 ^ k : Nat) : Int) ((a + k + 1 : Nat) : Int) := by
  have hl : a + k < l.length := (List.getElem?_eq_some_iff.1 hd).1
  refine ⟨.inr ⟨by omega, by omega, by omega, by omega, by omega⟩, fun pre v post h1 h2 h3 => ?_⟩
  obtain ⟨e1, e2, e3⟩ := h.last hd hlt h1 (by omega) h3
  omega
theorem gotN_bad {l : List UInt8} {a k n : Nat} (h : Dig l a k n) {d : UInt8} (hd : l[a + k]? = some d) (hlt : d.toNat < 128) (hm : ¬ n + d.toNat * 128 ^ k ≤ 1099511627775 ∨ (d.toNat = 0 ∧ 1 ≤ k)) : GotN l a 0 (-1) := by
  refine ⟨.inl ⟨rfl, rfl⟩, fun pre v post h1 h2 h3 => ?_⟩
  obtain ⟨e1, e2, e3⟩ := h.last hd hlt h1 (by omega) h3
  omega
theorem dig_bound {l : List UInt8} {a k n : Nat} (h : Dig l a k n) (hk : k ≤ 5) {d : Nat} (hd : d < 256) : 128 ^ k ≤ 34359738368 ∧ n < 34359738368 ∧ d % 128 * 128 ^ k ≤ 127 * 34359738368 := by
  have h1 : 128 ^ k ≤ 34359738368 := Nat.le_trans (Nat.pow_le_pow_right (by omega) hk) (by decide)
  have h2 := h.lt
  have h3 : d % 128 * 128 ^ k ≤ 127 * 34359738368 := Nat.mul_le_mul (by omega) h1
  exact ⟨h1, by omega, h3⟩

theorem ev_sGetVar : ∀ x, evFn tab [(159, cPutVar)] cGetVar Try.f129 (body Try.f129) x := by
  rintro ⟨l, a, hl, h1, h2⟩
  conv => whnf
  refine br2 (fun h3 => ?_) (fun h3 => ?_)
  · conv => whnf
    refine ⟨⟨rfl, 0, -1, rfl, gotN_none (.inl (by simpa using h3))⟩⟩
  conv => whnf
  intro h4
  conv => whnf
  refine br2 (fun h5 => ?_) (fun h5 => ?_)
  · conv => whnf
    refine ⟨⟨rfl, 0, -1, rfl, gotN_none (.inr (by simpa using h5))⟩⟩
  have h3' : 0 ≤ a := by simpa using h3
  have h5' : a < l.length := by simpa using h5
  obtain ⟨a, rfl⟩ : ∃ k : Nat, a = k := ⟨a.toNat, by omega⟩
  conv => whnf
  refine ⟨fun m s h => ∃ k n : Nat, Dig l a k n ∧ a + k ≤ l.length ∧ k ≤ 6 ∧ m = 6 - k ∧ s = [(0, .sl 0 none), (1, .lf (.int .i64 a)), (6, .lf (.int .i64 n)), (7, .lf (.int .i64 ((128 ^ k : Nat) : Int))), (8, .lf (.int .i64 ((a + k : Nat) : Int)))] ∧ h = [(0, some (.row .lent 1 encB l))],
    6, [(0, 0)], [(0, .sl 0 none), (1, .lf (.int .i64 a)), (6, .lf (.int .i64 0)), (7, .lf (.int .i64 1)), (8, .lf (.int .i64 a))], [(0, some (.row .lent 1 encB l))], ⟨rfl, ⟨rfl, rfl, rfl, rfl, rfl, trivial⟩, ⟨rfl, trivial⟩⟩, ⟨0, 0, Dig.zero l a, by omega, by omega, rfl, rfl, rfl⟩, ?_⟩
  rintro m _ _ ⟨k, n, hD, hk1, hk2, rfl, rfl, rfl⟩
  conv => whnf
  intro _
  conv => whnf
  refine br2 (fun g1 => ?_) (fun g1 => ?_)
  · conv => whnf
    refine br2 (fun g2 => ?_) (fun g2 => ?_)
    · have hk : a + k < l.length := by simp at g1; omega
      have hk5 : k ≤ 5 := by rw [w64] at g2 <;> first | omega | (simp at g2; omega)
      obtain ⟨d, hd⟩ : ∃ d, l[a + k]? = some d := ⟨_, List.getElem?_eq_getElem hk⟩
      have hd2 : nth l ((a + k : Nat) : Int).toNat = some d := by rw [nth_eq, Int.toNat_natCast]; exact hd
      have hd8 := u8_lt d
      obtain ⟨b1, b2, b3⟩ := dig_bound hD hk5 hd8
      have p1 : (0 : Int) ≤ ((128 ^ k : Nat) : Int) := Int.natCast_nonneg _
      have p2 : ((128 ^ k : Nat) : Int) ≤ 34359738368 := Int.ofNat_le.2 b1
      have hn1 : IntKind.i64.wrap ((n : Int) + IntKind.i64.wrap (((IntKind.i64.wrap (d.toNat : Int)).tmod 128) * ((128 ^ k : Nat) : Int))) = ((n + d.toNat % 128 * 128 ^ k : Nat) : Int) := by
        rw [w64 (n := (d.toNat : Int)) (by omega) (by omega), tmod128, ← Int.natCast_mul, w64 (n := ((d.toNat % 128 * 128 ^ k : Nat) : Int)) (by omega) (by omega), ← Int.natCast_add, w64 (by omega) (by omega)]
      conv => whnf
      refine ⟨by omega, by omega, ?_⟩
      conv => whnf
      refine ex2 d hd2 ?_
      conv => whnf
      refine ⟨by omega, by omega, ?_⟩
      conv => whnf
      refine ex2 d hd2 ?_
      conv => whnf
      refine br2 (fun g3 => ?_) (fun g3 => ?_)
      · have g3' : 128 ≤ d.toNat := by simp at g3; omega
        conv => whnf
        refine ⟨6 - (k + 1), [(0, 0)], [(0, .sl 0 none), (1, .lf (.int .i64 a)), (6, .lf (.int .i64 ((n + d.toNat % 128 * 128 ^ k : Nat) : Int))), (7, .lf (.int .i64 ((128 ^ (k + 1) : Nat) : Int))), (8, .lf (.int .i64 ((a + (k + 1) : Nat) : Int)))], [(0, some (.row .lent 1 encB l))], by omega, ⟨rfl, ⟨rfl, rfl, ?_, ?_, ?_, trivial⟩, ⟨rfl, trivial⟩⟩, k + 1, _, hD.step hd g3', by omega, by omega, rfl, rfl, rfl⟩
        · show V.lf (.int .i64 (IntKind.i64.wrap ((n : Int) + IntKind.i64.wrap (((IntKind.i64.wrap (d.toNat : Int)).tmod 128) * ((128 ^ k : Nat) : Int))))) = _
          rw [hn1]
        · show V.lf (.int .i64 (IntKind.i64.wrap (((128 ^ k : Nat) : Int) * 128))) = _
          rw [w64 (by omega) (by omega), Nat.pow_succ]; rfl
        · show V.lf (.int .i64 (IntKind.i64.wrap (((a + k : Nat) : Int) + 1))) = _
          rw [w64 (by omega) (by omega)]; rfl
      · have g3' : d.toNat < 128 := by simp at g3; omega
        have hm : d.toNat % 128 = d.toNat := Nat.mod_eq_of_lt g3'
        rw [hm] at hn1 b3
        conv => whnf
        refine ⟨1, UInt8, encB, encB_len, ?_⟩
        conv => whnf
        refine ⟨⟨[], ((n + d.toNat * 128 ^ k : Nat) : Int), by simp, by omega, by omega⟩, ?_, ?_⟩
        · show [[D.row 1 encB []], [D.lf (.int .i64 _)]] = [[D.row 1 encB []], [D.lf (.int .i64 _)]]
          rw [hn1]
        rintro _ _ ⟨rfl, rfl⟩
        have hN : numB ((n + d.toNat * 128 ^ k : Nat) : Int) = decide (n + d.toNat * 128 ^ k ≤ 1099511627775) := by
          simp only [numB]
          rw [show decide ((0 : Int) ≤ ((n + d.toNat * 128 ^ k : Nat) : Int)) = true from decide_eq_true (by omega), Bool.true_and]
          exact decide_eq_decide.2 (by omega)
        have hlen := dig_len hD.lt g3'
        have hle : (varB (n + d.toNat * 128 ^ k)).length ≤ 10 := varB_len (by omega)
        have hP : putB [] ((n + d.toNat * 128 ^ k : Nat) : Int) = decide (n + d.toNat * 128 ^ k ≤ 1099511627775) := by
          unfold putB
          rw [hN, Int.toNat_natCast, show decide (([] : List UInt8).length + (varB (n + d.toNat * 128 ^ k)).length ≤ 4096) = true from decide_eq_true (by simp; omega), Bool.and_true]
        conv => whnf
        refine br2 (fun g4 => ?_) (fun g4 => ?_)
        · conv => whnf
          replace g4 : (!putB [] ((n + d.toNat * 128 ^ k : Nat) : Int)) = true := g4
          rw [hP] at g4
          refine ⟨⟨rfl, 0, -1, rfl, gotN_bad hD hd g3' (.inl (by simpa using g4))⟩⟩
        · replace g4 : (!putB [] ((n + d.toNat * 128 ^ k : Nat) : Int)) = false := g4
          rw [hP] at g4
          have g4' : n + d.toNat * 128 ^ k ≤ 1099511627775 := by simpa using g4
          have hL : putL [] ((n + d.toNat * 128 ^ k : Nat) : Int) = varB (n + d.toNat * 128 ^ k) := by unfold putL; rw [if_pos (by rw [hP]; exact decide_eq_true g4'), Int.toNat_natCast]; rfl
          have hi : IntKind.i64.wrap (((a + k : Nat) : Int) + 1) = ((a + k + 1 : Nat) : Int) := by rw [w64 (by omega) (by omega)]; rfl
          have hw : IntKind.i64.wrap (IntKind.i64.wrap (((a + k : Nat) : Int) + 1) - (a : Int)) = ((k + 1 : Nat) : Int) := by rw [hi, w64 (by omega) (by omega)]; omega
          conv => whnf
          intro _
          conv => whnf
          refine br2 (fun g5 => ?_) (fun g5 => ?_)
          · replace g5 : (((putL [] ((n + d.toNat * 128 ^ k : Nat) : Int)).length : Int) != IntKind.i64.wrap (IntKind.i64.wrap (((a + k : Nat) : Int) + 1) - (a : Int))) = true := g5
            rw [hL, hw] at g5
            have g5' : (varB (n + d.toNat * 128 ^ k)).length ≠ k + 1 := by intro h; rw [h] at g5; simp at g5
            conv => whnf
            refine ⟨⟨rfl, 0, -1, rfl, gotN_bad hD hd g3' (.inr ?_)⟩⟩
            rw [Ne, hlen] at g5'
            omega
          · conv => whnf
            refine ⟨⟨rfl, _, _, ?_, gotN_of hD hd g3' g4'⟩⟩
            show [[D.lf (.int .i64 (IntKind.i64.wrap ((n : Int) + IntKind.i64.wrap (((IntKind.i64.wrap (d.toNat : Int)).tmod 128) * ((128 ^ k : Nat) : Int)))))], [D.lf (.int .i64 (IntKind.i64.wrap (((a + k : Nat) : Int) + 1)))]] = _
            rw [hn1, hi]
    · conv => whnf
      refine ⟨⟨rfl, 0, -1, rfl, hD.out (.inr ?_) hk1⟩⟩
      rw [w64 (by omega) (by omega)] at g2
      simp at g2; omega
  · conv => whnf
    refine ⟨⟨rfl, 0, -1, rfl, hD.out (.inl ?_) hk1⟩⟩
    simp at g1; omega
theorem sGetVar_ok : FnOk Try.prog 129 cGetVar := fnOk_of fun x => fn_at tab_ok (SOk.cons putVar_ok SOk.nil) mixed (fn := Try.f129) (code := body Try.f129) ⟨Try.func129, rfl, by kernel_rfl, by kernel_rfl, by kernel_rfl, by kernel_rfl⟩ (ev_sGetVar x)
end Go.Vm
namespace Go.Vm
open Go.Proofs
set_option maxRecDepth 100000
set_option linter.unusedVariables false
set_option linter.unusedSimpArgs false

theorem ev_iGetVar : ∀ x, evFn tab [] cGetVar Try.f160 (body Try.f160) x := by
  rintro ⟨l, a, hl, h1, h2⟩
  conv => whnf
  refine br2 (fun h3 => ?_) (fun h3 => ?_)
  · conv => whnf
    refine ⟨⟨rfl, 0, -1, rfl, gotN_none (.inl (by simpa using h3))⟩⟩
  have h3' : 0 ≤ a := by simpa using h3
  obtain ⟨a, rfl⟩ : ∃ k : Nat, a = k := ⟨a.toNat, by omega⟩
  conv => whnf
  refine ⟨fun m s h => ∃ k n : Nat, Dig l a k n ∧ (a + k ≤ l.length ∨ k = 0) ∧ k ≤ 6 ∧ m = 6 - k ∧ s = [(0, .sl 0 none), (1, .lf (.int .i64 a)), (6, .lf (.int .i64 n)), (7, .lf (.int .i64 ((128 ^ k : Nat) : Int))), (8, .lf (.int .i64 ((a + k : Nat) : Int)))] ∧ h = [(0, some (.row .lent 1 encB l))],
    6, [(0, 0)], [(0, .sl 0 none), (1, .lf (.int .i64 a)), (6, .lf (.int .i64 0)), (7, .lf (.int .i64 1)), (8, .lf (.int .i64 a))], [(0, some (.row .lent 1 encB l))], ⟨rfl, ⟨rfl, rfl, rfl, rfl, rfl, trivial⟩, ⟨rfl, trivial⟩⟩, ⟨0, 0, Dig.zero l a, by omega, by omega, rfl, rfl, rfl⟩, ?_⟩
  rintro m _ _ ⟨k, n, hD, hk1, hk2, rfl, rfl, rfl⟩
  conv => whnf
  intro _
  conv => whnf
  refine br2 (fun g1 => ?_) (fun g1 => ?_)
  · have hk : a + k < l.length := by simp at g1; omega
    have hw : IntKind.i64.wrap (((a + k : Nat) : Int) - (a : Int)) = (k : Int) := by rw [w64 (by omega) (by omega)]; omega
    conv => whnf
    refine br2 (fun g2 => ?_) (fun g2 => ?_)
    · have hk5 : k ≤ 5 := by rw [hw] at g2; simp at g2; omega
      obtain ⟨d, hd⟩ : ∃ d, l[a + k]? = some d := ⟨_, List.getElem?_eq_getElem hk⟩
      have hd2 : nth l ((a + k : Nat) : Int).toNat = some d := by rw [nth_eq, Int.toNat_natCast]; exact hd
      have hd8 := u8_lt d
      obtain ⟨b1, b2, b3⟩ := dig_bound hD hk5 hd8
      have p1 : (0 : Int) ≤ ((128 ^ k : Nat) : Int) := Int.natCast_nonneg _
      have p2 : ((128 ^ k : Nat) : Int) ≤ 34359738368 := Int.ofNat_le.2 b1
      have hdw : IntKind.i64.wrap (d.toNat : Int) = (d.toNat : Int) := w64 (by omega) (by omega)
      have hn1 : IntKind.i64.wrap ((n : Int) + IntKind.i64.wrap (((IntKind.i64.wrap (d.toNat : Int)).tmod 128) * ((128 ^ k : Nat) : Int))) = ((n + d.toNat % 128 * 128 ^ k : Nat) : Int) := by
        rw [hdw, tmod128, ← Int.natCast_mul, w64 (n := ((d.toNat % 128 * 128 ^ k : Nat) : Int)) (by omega) (by omega), ← Int.natCast_add, w64 (by omega) (by omega)]
      have hi : IntKind.i64.wrap (((a + k : Nat) : Int) + 1) = ((a + k + 1 : Nat) : Int) := by rw [w64 (by omega) (by omega)]; rfl
      conv => whnf
      refine ⟨by omega, by omega, ?_⟩
      conv => whnf
      refine ex2 d hd2 ?_
      conv => whnf
      refine br2 (fun g3 => ?_) (fun g3 => ?_)
      · have g3' : 128 ≤ d.toNat := by rw [hdw] at g3; simp at g3; omega
        conv => whnf
        refine ⟨6 - (k + 1), [(0, 0)], [(0, .sl 0 none), (1, .lf (.int .i64 a)), (6, .lf (.int .i64 ((n + d.toNat % 128 * 128 ^ k : Nat) : Int))), (7, .lf (.int .i64 ((128 ^ (k + 1) : Nat) : Int))), (8, .lf (.int .i64 ((a + (k + 1) : Nat) : Int)))], [(0, some (.row .lent 1 encB l))], by omega, ⟨rfl, ⟨rfl, rfl, ?_, ?_, ?_, trivial⟩, ⟨rfl, trivial⟩⟩, k + 1, _, hD.step hd g3', by omega, by omega, rfl, rfl, rfl⟩
        · show V.lf (.int .i64 (IntKind.i64.wrap ((n : Int) + IntKind.i64.wrap (((IntKind.i64.wrap (d.toNat : Int)).tmod 128) * ((128 ^ k : Nat) : Int))))) = _
          rw [hn1]
        · show V.lf (.int .i64 (IntKind.i64.wrap (((128 ^ k : Nat) : Int) * 128))) = _
          rw [w64 (by omega) (by omega), Nat.pow_succ]; rfl
        · show V.lf (.int .i64 (IntKind.i64.wrap (((a + k : Nat) : Int) + 1))) = _
          rw [hi]; rfl
      · have g3' : d.toNat < 128 := by rw [hdw] at g3; simp at g3; omega
        have hm : d.toNat % 128 = d.toNat := Nat.mod_eq_of_lt g3'
        rw [hm] at hn1 b3
        conv => whnf
        refine br2 (fun g4 => ?_) (fun g4 => ?_)
        · replace g4 : decide (IntKind.i64.wrap ((n : Int) + IntKind.i64.wrap (((IntKind.i64.wrap (d.toNat : Int)).tmod 128) * ((128 ^ k : Nat) : Int))) > 1099511627775) = true := g4
          rw [hn1] at g4
          conv => whnf
          exact ⟨⟨rfl, 0, -1, rfl, gotN_bad hD hd g3' (.inl (by have := of_decide_eq_true g4; omega))⟩⟩
        · replace g4 : decide (IntKind.i64.wrap ((n : Int) + IntKind.i64.wrap (((IntKind.i64.wrap (d.toNat : Int)).tmod 128) * ((128 ^ k : Nat) : Int))) > 1099511627775) = false := g4
          rw [hn1] at g4
          have g4' : n + d.toNat * 128 ^ k ≤ 1099511627775 := by have := of_decide_eq_false g4; omega
          have done : GotN l a ((n + d.toNat * 128 ^ k : Nat) : Int) ((a + k + 1 : Nat) : Int) := gotN_of hD hd g3' g4'
          conv => whnf
          refine br2 (fun g5 => ?_) (fun g5 => ?_)
          · replace g5 : (IntKind.i64.wrap (d.toNat : Int) == 0) = true := g5
            rw [hdw] at g5
            have g5' : d.toNat = 0 := by have := eq_of_beq g5; omega
            conv => whnf
            refine br2 (fun g6 => ?_) (fun g6 => ?_)
            · conv => whnf
              exact ⟨⟨rfl, 0, -1, rfl, gotN_bad hD hd g3' (.inr ⟨g5', by have := of_decide_eq_true g6; omega⟩)⟩⟩
            · conv => whnf
              refine ⟨⟨rfl, _, _, ?_, done⟩⟩
              show [[D.lf (.int .i64 (IntKind.i64.wrap ((n : Int) + IntKind.i64.wrap (((IntKind.i64.wrap (d.toNat : Int)).tmod 128) * ((128 ^ k : Nat) : Int)))))], [D.lf (.int .i64 (IntKind.i64.wrap (((a + k : Nat) : Int) + 1)))]] = _
              rw [hn1, hi]
          · conv => whnf
            refine ⟨⟨rfl, _, _, ?_, done⟩⟩
            show [[D.lf (.int .i64 (IntKind.i64.wrap ((n : Int) + IntKind.i64.wrap (((IntKind.i64.wrap (d.toNat : Int)).tmod 128) * ((128 ^ k : Nat) : Int)))))], [D.lf (.int .i64 (IntKind.i64.wrap (((a + k : Nat) : Int) + 1)))]] = _
            rw [hn1, hi]
    · conv => whnf
      refine ⟨⟨rfl, 0, -1, rfl, hD.out (.inr ?_) (by omega)⟩⟩
      rw [hw] at g2
      simp at g2; omega
  · conv => whnf
    have g1' : l.length ≤ a + k := by simp at g1; omega
    rcases hk1 with hk1 | hk1
    · exact ⟨⟨rfl, 0, -1, rfl, hD.out (.inl g1') hk1⟩⟩
    · exact ⟨⟨rfl, 0, -1, rfl, (show GotN l a 0 (-1) from gotN_none (.inr (by omega)))⟩⟩
theorem iGetVar_ok : FnOk Try.prog 160 cGetVar := fnOk_of fun x => fn_at tab_ok (SOk.nil) mixed (fn := Try.f160) (code := body Try.f160) ⟨Try.func160, rfl, by kernel_rfl, by kernel_rfl, by kernel_rfl, by kernel_rfl⟩ (ev_iGetVar x)

/-- What is read: a text and the place behind it; the text that stands there. -/
def GotT (l : List UInt8) (a : Int) (t : ByteArray) (nx : Int) : Prop :=
  (nx = -1 ∧ t = ⟨#[]⟩ ∨ 0 ≤ a ∧ a < nx ∧ nx ≤ l.length ∧ t.size ≤ l.length) ∧
    ∀ (pre : List UInt8) (u : ByteArray) (post : List UInt8), l = pre ++ encT u ++ post → a = pre.length → u.size ≤ 1099511627775 → t = u ∧ nx = pre.length + (encT u).length
def cGetText : Con := relC GetX [(.rd, false), (.rd, false)] [false, false] (fun x => [[.row 1 encB x.l], [.lf (.int .i64 x.a)]]) (fun x r => ∃ (t : ByteArray) (nx : Int), r = [[.lf (.string t)], [.lf (.int .i64 nx)]] ∧ GotT x.l x.a t nx)

theorem gotT_none {l : List UInt8} {a n nx : Int} (h : GotN l a n nx) (hb : nx < 0 ∨ (l.length : Int) - nx < n) : GotT l a ⟨#[]⟩ (-1) := by
  refine ⟨.inl ⟨rfl, rfl⟩, fun pre u post h1 h2 h3 => ?_⟩
  obtain ⟨e1, e2⟩ := h.2 pre u.size (bs u ++ post) (by rw [h1]; simp [encT]) h2 h3
  have := congrArg List.length h1
  simp only [List.length_append, encT, bs_len] at this
  omega
theorem gotT_of {l : List UInt8} {a : Int} {n nx : Nat} (h : GotN l a n nx) (hb : nx + n ≤ l.length) : GotT l a (ofB ((l.drop nx).take n)) ((nx + n : Nat) : Int) := by
  have h0 := h.1
  refine ⟨.inr ⟨by omega, by omega, by omega, by rw [of_size, List.length_take, List.length_drop]; omega⟩, fun pre u post h1 h2 h3 => ?_⟩
  obtain ⟨e1, e2⟩ := h.2 pre u.size (bs u ++ post) (by rw [h1]; simp [encT]) h2 h3
  have hn : n = u.size := by omega
  have hnx : nx = pre.length + (varB u.size).length := by omega
  refine ⟨?_, by simp only [encT, List.length_append, bs_len]; omega⟩
  have : (l.drop nx).take n = bs u := by
    rw [h1, hnx, hn, ← List.length_append]
    have : pre ++ encT u ++ post = (pre ++ varB u.size) ++ (bs u ++ post) := by simp [encT]
    rw [this, List.drop_left, ← bs_len, List.take_left]
  rw [this, of_bs]

theorem ev_sGetText : ∀ x, evFn tab [(129, cGetVar)] cGetText Try.f77 (body Try.f77) x := by
  rintro ⟨l, a, hl, h1, h2⟩
  conv => whnf
  refine ⟨⟨l, a, hl, h1, h2⟩, rfl, ?_⟩
  rintro _ _ ⟨rfl, n, nx, rfl, hG⟩
  have hG0 : nx = -1 ∧ n = 0 ∨ 0 ≤ n ∧ n ≤ 1099511627775 ∧ 0 ≤ a ∧ a < nx ∧ nx ≤ l.length := hG.1
  conv => whnf
  refine br2 (fun h3 => ?_) (fun h3 => ?_)
  · conv => whnf
    exact ⟨⟨rfl, ⟨#[]⟩, -1, rfl, gotT_none hG (.inl (of_decide_eq_true h3))⟩⟩
  have h3' : 0 ≤ nx := by have := of_decide_eq_false h3; omega
  conv => whnf
  intro _
  have hw : IntKind.i64.wrap ((l.length : Int) - nx) = (l.length : Int) - nx := w64 (by omega) (by omega)
  conv => whnf
  refine br2 (fun h4 => ?_) (fun h4 => ?_)
  · replace h4 : decide (n > IntKind.i64.wrap ((l.length : Int) - nx)) = true := h4
    rw [hw] at h4
    conv => whnf
    exact ⟨⟨rfl, ⟨#[]⟩, -1, rfl, gotT_none hG (.inr (by have := of_decide_eq_true h4; omega))⟩⟩
  replace h4 : decide (n > IntKind.i64.wrap ((l.length : Int) - nx)) = false := h4
  rw [hw] at h4
  have h4' : nx + n ≤ l.length := by have := of_decide_eq_false h4; omega
  have hw2 : IntKind.i64.wrap (nx + n) = nx + n := w64 (by omega) (by omega)
  obtain ⟨n, rfl⟩ : ∃ k : Nat, n = k := ⟨n.toNat, by omega⟩
  obtain ⟨nx, rfl⟩ : ∃ k : Nat, nx = k := ⟨nx.toNat, by omega⟩
  conv => whnf
  refine ⟨Int.natCast_nonneg _, by rw [hw2]; omega, by rw [hw2]; exact h4', ?_⟩
  conv => whnf
  refine ⟨(l.drop nx).take n, ?_, ?_⟩
  · show List.map encB ((l.drop (nx : Int).toNat).take (IntKind.i64.wrap ((nx : Int) + n) - nx).toNat) = _
    rw [hw2, Int.toNat_natCast, show ((nx : Int) + n - nx).toNat = n by omega]
  conv => whnf
  refine ⟨⟨rfl, _, _, ?_, gotT_of hG (show nx + n ≤ l.length by omega)⟩⟩
  show [[D.lf (.string _)], [D.lf (.int .i64 (IntKind.i64.wrap ((nx : Int) + n)))]] = _
  rw [hw2]; rfl
theorem sGetText_ok : FnOk Try.prog 77 cGetText := fnOk_of fun x => fn_at tab_ok (SOk.cons sGetVar_ok SOk.nil) mixed (fn := Try.f77) (code := body Try.f77) ⟨Try.func77, rfl, by kernel_rfl, by kernel_rfl, by kernel_rfl, by kernel_rfl⟩ (ev_sGetText x)
theorem ev_iGetText : ∀ x, evFn tab [(160, cGetVar)] cGetText Try.f131 (body Try.f131) x := by
  rintro ⟨l, a, hl, h1, h2⟩
  conv => whnf
  refine ⟨⟨l, a, hl, h1, h2⟩, rfl, ?_⟩
  rintro _ _ ⟨rfl, n, nx, rfl, hG⟩
  have hG0 : nx = -1 ∧ n = 0 ∨ 0 ≤ n ∧ n ≤ 1099511627775 ∧ 0 ≤ a ∧ a < nx ∧ nx ≤ l.length := hG.1
  conv => whnf
  refine br2 (fun h3 => ?_) (fun h3 => ?_)
  · conv => whnf
    exact ⟨⟨rfl, ⟨#[]⟩, -1, rfl, gotT_none hG (.inl (of_decide_eq_true h3))⟩⟩
  have h3' : 0 ≤ nx := by have := of_decide_eq_false h3; omega
  conv => whnf
  intro _
  have hw : IntKind.i64.wrap ((l.length : Int) - nx) = (l.length : Int) - nx := w64 (by omega) (by omega)
  conv => whnf
  refine br2 (fun h4 => ?_) (fun h4 => ?_)
  · replace h4 : decide (n > IntKind.i64.wrap ((l.length : Int) - nx)) = true := h4
    rw [hw] at h4
    conv => whnf
    exact ⟨⟨rfl, ⟨#[]⟩, -1, rfl, gotT_none hG (.inr (by have := of_decide_eq_true h4; omega))⟩⟩
  replace h4 : decide (n > IntKind.i64.wrap ((l.length : Int) - nx)) = false := h4
  rw [hw] at h4
  have h4' : nx + n ≤ l.length := by have := of_decide_eq_false h4; omega
  have hw2 : IntKind.i64.wrap (nx + n) = nx + n := w64 (by omega) (by omega)
  obtain ⟨n, rfl⟩ : ∃ k : Nat, n = k := ⟨n.toNat, by omega⟩
  obtain ⟨nx, rfl⟩ : ∃ k : Nat, nx = k := ⟨nx.toNat, by omega⟩
  conv => whnf
  refine ⟨Int.natCast_nonneg _, by rw [hw2]; omega, by rw [hw2]; exact h4', ?_⟩
  conv => whnf
  refine ⟨(l.drop nx).take n, ?_, ?_⟩
  · show List.map encB ((l.drop (nx : Int).toNat).take (IntKind.i64.wrap ((nx : Int) + n) - nx).toNat) = _
    rw [hw2, Int.toNat_natCast, show ((nx : Int) + n - nx).toNat = n by omega]
  conv => whnf
  refine ⟨⟨rfl, _, _, ?_, gotT_of hG (show nx + n ≤ l.length by omega)⟩⟩
  show [[D.lf (.string _)], [D.lf (.int .i64 (IntKind.i64.wrap ((nx : Int) + n)))]] = _
  rw [hw2]; rfl
theorem iGetText_ok : FnOk Try.prog 131 cGetText := fnOk_of fun x => fn_at tab_ok (SOk.cons iGetVar_ok SOk.nil) mixed (fn := Try.f131) (code := body Try.f131) ⟨Try.func131, rfl, by kernel_rfl, by kernel_rfl, by kernel_rfl, by kernel_rfl⟩ (ev_iGetText x)
end Go.Vm
namespace Go.Vm
open Go.Proofs
set_option maxRecDepth 100000
set_option linter.unusedVariables false
set_option linter.unusedSimpArgs false

/-! The order of texts -/
theorem bl_flip : ∀ a b : List UInt8, Op.bytesLess b a = !(Op.bytesLess a b || a == b)
  | [], [] => rfl
  | [], _ :: _ => by simp [Op.bytesLess]
  | _ :: _, [] => by simp [Op.bytesLess]
  | a :: x, b :: y => by
    have ih := bl_flip x y
    simp only [Op.bytesLess]
    rcases Nat.lt_trichotomy a.toNat b.toNat with h | h | h
    · have h1 : a < b := UInt8.lt_iff_toNat_lt.mpr h
      have h2 : ¬ b < a := fun e => by have := UInt8.lt_iff_toNat_lt.mp e; omega
      have h3 : a ≠ b := fun e => by subst e; omega
      simp [h1, h2, h3, Ne.symm h3]
    · have h1 : a = b := UInt8.toNat_inj.mp h
      subst h1
      have h2 : ¬ a < a := fun e => by have := UInt8.lt_iff_toNat_lt.mp e; omega
      simp only [h2, decide_false, Bool.false_or, beq_self_eq_true, Bool.true_and, ih, List.cons_beq_cons]
    · have h1 : b < a := UInt8.lt_iff_toNat_lt.mpr h
      have h2 : ¬ a < b := fun e => by have := UInt8.lt_iff_toNat_lt.mp e; omega
      have h3 : a ≠ b := fun e => by subst e; omega
      simp [h1, h2, h3]
theorem toList_inj {a b : ByteArray} (h : a.toList = b.toList) : a = b := by
  rw [ByteArray.toList_eq, ByteArray.toList_eq] at h
  obtain ⟨⟨x⟩⟩ := a
  obtain ⟨⟨y⟩⟩ := b
  simpa using h
theorem strEq_iff {a b : ByteArray} : strEq a b = true ↔ a = b := by
  unfold strEq
  rw [beq_iff_eq]
  exact ⟨toList_inj, fun h => by rw [h]⟩
theorem strEq_no {a b : ByteArray} : strEq a b = false ↔ a ≠ b := by
  rw [Ne, ← strEq_iff]; cases strEq a b <;> simp
theorem strEq_refl (a : ByteArray) : strEq a a = true := strEq_iff.2 rfl
theorem strEq_comm (a b : ByteArray) : strEq a b = strEq b a := by
  cases h : strEq a b with
  | true => rw [strEq_iff.1 h, strEq_refl]
  | false => exact (strEq_no.2 (Ne.symm (strEq_no.1 h))).symm
theorem strLt_flip (a b : ByteArray) : strLt b a = !(strLt a b || strEq a b) := bl_flip _ _
theorem strLt_gtr (a b : ByteArray) : (!(strLt b a || strEq b a)) = strLt a b := (strLt_flip b a).symm

def emp (s : ByteArray) : Bool := strEq s ⟨#[]⟩
theorem emp_iff {s : ByteArray} : emp s = true ↔ s = ⟨#[]⟩ := strEq_iff
theorem emp_no {s : ByteArray} : emp s = false ↔ s ≠ ⟨#[]⟩ := strEq_no

def userOkB (s : ByteArray) : Bool := decide (1 ≤ s.size) && decide (s.size ≤ 8)
def uvalOkB (s : ByteArray) : Bool := decide (s.size ≤ 20)
def keyOkB (s : ByteArray) : Bool := decide (1 ≤ s.size) && decide (s.size ≤ 16)
def rangeOkB (a b : ByteArray) : Bool := decide (a.size ≤ 17) && decide (b.size ≤ 17) && (emp b || strLt a b)
def reachOkB (a b : ByteArray) : Bool := rangeOkB a b && decide (a.size ≤ 9) && decide (b.size ≤ 9)

/-- A test of one text; of two in a struct. -/
def cS1 (f : ByteArray → Bool) : Con := pureC ByteArray [(.rd, false)] [false] (fun k => [[.lf (.string k)]]) (fun k => [[.lf (.bool (f k))]])
def cS2 (f : ByteArray → ByteArray → Bool) : Con := pureC (ByteArray × ByteArray) [(.rd, true)] [false] (fun k => [[.lf (.string k.1), .lf (.string k.2)]]) (fun k => [[.lf (.bool (f k.1 k.2))]])
def cUserOk : Con := cS1 userOkB
def cUvalOk : Con := cS1 uvalOkB
def cKeyOk : Con := cS1 keyOkB
def cRangeOk : Con := cS2 rangeOkB
def cReachOk : Con := cS2 reachOkB
structure WithinX where
  a : Int
  b : Int
  c : Int
def cWithin : Con := pureC WithinX [(.rd, false), (.rd, false), (.rd, false)] [false] (fun x => [[.lf (.int .i64 x.a)], [.lf (.int .i64 x.b)], [.lf (.int .i64 x.c)]]) (fun x => [[.lf (.bool (decide (x.b ≤ x.a) && decide (x.a ≤ x.c)))]])

theorem ev_sUserOk : ∀ x, evFn tab [] cUserOk Try.f99 (body Try.f99) x := by
  intro k
  repeat' ((conv => whnf); refine br2 (fun h => ?_) (fun h => ?_))
  all_goals (conv => whnf)
  all_goals refine ⟨⟨rfl, ?_⟩⟩
  · show _ = [[D.lf (.bool (userOkB k))]]
    have h1 := of_decide_eq_true h
    unfold userOkB
    rw [show decide (1 ≤ k.size) = true from decide_eq_true (by omega), Bool.true_and]
    congr 4
    exact decide_eq_decide.2 (by omega)
  · show _ = [[D.lf (.bool (userOkB k))]]
    have h1 := of_decide_eq_false h
    unfold userOkB
    rw [show decide (1 ≤ k.size) = false from decide_eq_false (by omega), Bool.false_and]
theorem sUserOk_ok : FnOk Try.prog 99 cUserOk := fnOk_of fun x => fn_at tab_ok (SOk.nil) mixed (fn := Try.f99) (code := body Try.f99) ⟨Try.func99, rfl, by kernel_rfl, by kernel_rfl, by kernel_rfl, by kernel_rfl⟩ (ev_sUserOk x)
theorem ev_sUvalOk : ∀ x, evFn tab [] cUvalOk Try.f100 (body Try.f100) x := by
  intro k
  conv => whnf
  refine ⟨⟨rfl, ?_⟩⟩
  show _ = [[D.lf (.bool (uvalOkB k))]]
  unfold uvalOkB
  congr 4
  exact decide_eq_decide.2 (by omega)
theorem sUvalOk_ok : FnOk Try.prog 100 cUvalOk := fnOk_of fun x => fn_at tab_ok (SOk.nil) mixed (fn := Try.f100) (code := body Try.f100) ⟨Try.func100, rfl, by kernel_rfl, by kernel_rfl, by kernel_rfl, by kernel_rfl⟩ (ev_sUvalOk x)
theorem ev_iUvalOk : ∀ x, evFn tab [] cUvalOk Try.f127 (body Try.f127) x := by
  intro k
  conv => whnf
  refine ⟨⟨rfl, ?_⟩⟩
  show _ = [[D.lf (.bool (uvalOkB k))]]
  unfold uvalOkB
  congr 4
  exact decide_eq_decide.2 (by omega)
theorem iUvalOk_ok : FnOk Try.prog 127 cUvalOk := fnOk_of fun x => fn_at tab_ok (SOk.nil) mixed (fn := Try.f127) (code := body Try.f127) ⟨Try.func127, rfl, by kernel_rfl, by kernel_rfl, by kernel_rfl, by kernel_rfl⟩ (ev_iUvalOk x)
theorem ev_within : ∀ x, evFn tab [] cWithin Try.f93 (body Try.f93) x := by
  rintro ⟨a, b, c⟩
  repeat' ((conv => whnf); refine br2 (fun h => ?_) (fun h => ?_))
  all_goals (conv => whnf)
  all_goals refine ⟨⟨rfl, ?_⟩⟩
  · show _ = [[D.lf (.bool (decide (b ≤ a) && decide (a ≤ c)))]]
    rw [show decide (b ≤ a) = true from h, Bool.true_and]
  · show _ = [[D.lf (.bool (decide (b ≤ a) && decide (a ≤ c)))]]
    rw [show decide (b ≤ a) = false from h, Bool.false_and]
theorem within_ok : FnOk Try.prog 93 cWithin := fnOk_of fun x => fn_at tab_ok (SOk.nil) mixed (fn := Try.f93) (code := body Try.f93) ⟨Try.func93, rfl, by kernel_rfl, by kernel_rfl, by kernel_rfl, by kernel_rfl⟩ (ev_within x)
theorem ev_iUserOk : ∀ x, evFn tab [(93, cWithin)] cUserOk Try.f126 (body Try.f126) x := by
  intro k
  conv => whnf
  refine ⟨⟨k.size, 1, 8⟩, rfl, ?_⟩
  rintro _ _ ⟨rfl, rfl⟩
  conv => whnf
  refine ⟨⟨rfl, ?_⟩⟩
  show [[D.lf (.bool (decide ((1 : Int) ≤ k.size) && decide ((k.size : Int) ≤ 8)))]] = [[D.lf (.bool (userOkB k))]]
  unfold userOkB
  rw [show decide ((1 : Int) ≤ k.size) = decide (1 ≤ k.size) from decide_eq_decide.2 (by omega), show decide ((k.size : Int) ≤ 8) = decide (k.size ≤ 8) from decide_eq_decide.2 (by omega)]
theorem iUserOk_ok : FnOk Try.prog 126 cUserOk := fnOk_of fun x => fn_at tab_ok (SOk.cons within_ok SOk.nil) mixed (fn := Try.f126) (code := body Try.f126) ⟨Try.func126, rfl, by kernel_rfl, by kernel_rfl, by kernel_rfl, by kernel_rfl⟩ (ev_iUserOk x)
theorem ev_iKeyOk : ∀ x, evFn tab [(93, cWithin)] cKeyOk Try.f66 (body Try.f66) x := by
  intro k
  conv => whnf
  refine ⟨⟨k.size, 1, 16⟩, rfl, ?_⟩
  rintro _ _ ⟨rfl, rfl⟩
  conv => whnf
  refine ⟨⟨rfl, ?_⟩⟩
  show [[D.lf (.bool (decide ((1 : Int) ≤ k.size) && decide ((k.size : Int) ≤ 16)))]] = [[D.lf (.bool (keyOkB k))]]
  unfold keyOkB
  rw [show decide ((1 : Int) ≤ k.size) = decide (1 ≤ k.size) from decide_eq_decide.2 (by omega), show decide ((k.size : Int) ≤ 16) = decide (k.size ≤ 16) from decide_eq_decide.2 (by omega)]
theorem iKeyOk_ok : FnOk Try.prog 66 cKeyOk := fnOk_of fun x => fn_at tab_ok (SOk.cons within_ok SOk.nil) mixed (fn := Try.f66) (code := body Try.f66) ⟨Try.func66, rfl, by kernel_rfl, by kernel_rfl, by kernel_rfl, by kernel_rfl⟩ (ev_iKeyOk x)
theorem natI (a b : Nat) : decide ((a : Int) ≤ b) = decide (a ≤ b) := decide_eq_decide.2 (by omega)
theorem natG (a b : Nat) : decide ((a : Int) > b) = !decide (a ≤ b) := by
  by_cases h : a ≤ b
  · rw [decide_eq_true h, decide_eq_false (by omega)]; rfl
  · rw [decide_eq_false h, decide_eq_true (by omega)]; rfl
theorem ev_sRangeOk : ∀ x, evFn tab [] cRangeOk Try.f65 (body Try.f65) x := by
  rintro ⟨a, b⟩
  repeat' ((conv => whnf); refine br2 (fun h => ?_) (fun h => ?_))
  all_goals (conv => whnf)
  all_goals refine ⟨⟨rfl, ?_⟩⟩
  all_goals show _ = [[D.lf (.bool (rangeOkB a b))]]
  · have h1 : ¬ a.size ≤ 17 := by have := of_decide_eq_true h; simp at this; omega
    simp [rangeOkB, h1]
  · rename_i h0
    have h1 : ¬ b.size ≤ 17 := by have := of_decide_eq_true h; simp at this; omega
    simp [rangeOkB, h1]
  · rename_i h1 h0
    have h3 : a.size ≤ 17 := by have := of_decide_eq_false h1; simp at this; omega
    have h4 : b.size ≤ 17 := by have := of_decide_eq_false h0; simp at this; omega
    have h5 : emp b = true := h
    simp [rangeOkB, h3, h4, h5]
  · rename_i h1 h0
    have h3 : a.size ≤ 17 := by have := of_decide_eq_false h1; simp at this; omega
    have h4 : b.size ≤ 17 := by have := of_decide_eq_false h0; simp at this; omega
    have h5 : emp b = false := h
    simp [rangeOkB, h3, h4, h5]
theorem sRangeOk_ok : FnOk Try.prog 65 cRangeOk := fnOk_of fun x => fn_at tab_ok (SOk.nil) mixed (fn := Try.f65) (code := body Try.f65) ⟨Try.func65, rfl, by kernel_rfl, by kernel_rfl, by kernel_rfl, by kernel_rfl⟩ (ev_sRangeOk x)
theorem ev_iRangeOk : ∀ x, evFn tab [] cRangeOk Try.f64 (body Try.f64) x := by
  rintro ⟨a, b⟩
  repeat' ((conv => whnf); refine br2 (fun h => ?_) (fun h => ?_))
  all_goals (conv => whnf)
  all_goals refine ⟨⟨rfl, ?_⟩⟩
  all_goals show _ = [[D.lf (.bool (rangeOkB a b))]]
  · rename_i h1 h0
    have h3 : a.size ≤ 17 := by have := of_decide_eq_true h1; simp at this; omega
    have h4 : b.size ≤ 17 := by have := of_decide_eq_true h0; simp at this; omega
    have h5 : emp b = true := h
    simp [rangeOkB, h3, h4, h5]
  · rename_i h1 h0
    have h3 : a.size ≤ 17 := by have := of_decide_eq_true h1; simp at this; omega
    have h4 : b.size ≤ 17 := by have := of_decide_eq_true h0; simp at this; omega
    have h5 : emp b = false := h
    show [[D.lf (.bool (!(strLt b a || strEq b a)))]] = _
    rw [strLt_gtr]
    simp [rangeOkB, h3, h4, h5]
  · rename_i h0
    have h1 : ¬ b.size ≤ 17 := by have := of_decide_eq_false h; simp at this; omega
    simp [rangeOkB, h1]
  · have h1 : ¬ a.size ≤ 17 := by have := of_decide_eq_false h; simp at this; omega
    simp [rangeOkB, h1]
theorem iRangeOk_ok : FnOk Try.prog 64 cRangeOk := fnOk_of fun x => fn_at tab_ok (SOk.nil) mixed (fn := Try.f64) (code := body Try.f64) ⟨Try.func64, rfl, by kernel_rfl, by kernel_rfl, by kernel_rfl, by kernel_rfl⟩ (ev_iRangeOk x)
theorem ev_sReachOk : ∀ x, evFn tab [(65, cRangeOk)] cReachOk Try.f101 (body Try.f101) x := by
  rintro ⟨a, b⟩
  conv => whnf
  refine ⟨(a, b), rfl, ?_⟩
  rintro _ _ ⟨rfl, rfl⟩
  repeat' ((conv => whnf); refine br2 (fun h => ?_) (fun h => ?_))
  all_goals (conv => whnf)
  all_goals refine ⟨⟨rfl, ?_⟩⟩
  all_goals show _ = [[D.lf (.bool (reachOkB a b))]]
  · rename_i h1
    have h2 : rangeOkB a b = true := h1
    have h3 : a.size ≤ 9 := by have := of_decide_eq_true h; simp at this; omega
    show [[D.lf (.bool (decide ((b.size : Int) ≤ (9 : Nat))))]] = _
    rw [natI]
    simp [reachOkB, h2, h3]
  · rename_i h1
    have h2 : rangeOkB a b = true := h1
    have h3 : ¬ a.size ≤ 9 := by have := of_decide_eq_false h; simp at this; omega
    simp [reachOkB, h2, h3]
  · have h2 : rangeOkB a b = false := h
    simp [reachOkB, h2]
theorem sReachOk_ok : FnOk Try.prog 101 cReachOk := fnOk_of fun x => fn_at tab_ok (SOk.cons sRangeOk_ok SOk.nil) mixed (fn := Try.f101) (code := body Try.f101) ⟨Try.func101, rfl, by kernel_rfl, by kernel_rfl, by kernel_rfl, by kernel_rfl⟩ (ev_sReachOk x)
theorem ev_iReachOk : ∀ x, evFn tab [(64, cRangeOk)] cReachOk Try.f128 (body Try.f128) x := by
  rintro ⟨a, b⟩
  conv => whnf
  refine ⟨(a, b), rfl, ?_⟩
  rintro _ _ ⟨rfl, rfl⟩
  repeat' ((conv => whnf); refine br2 (fun h => ?_) (fun h => ?_))
  all_goals (conv => whnf)
  all_goals refine ⟨⟨rfl, ?_⟩⟩
  all_goals show _ = [[D.lf (.bool (reachOkB a b))]]
  · rename_i h1
    have h2 : rangeOkB a b = true := h1
    have h3 : a.size ≤ 9 := by have := of_decide_eq_true h; simp at this; omega
    show [[D.lf (.bool (decide ((b.size : Int) ≤ (9 : Nat))))]] = _
    rw [natI]
    simp [reachOkB, h2, h3]
  · rename_i h1
    have h2 : rangeOkB a b = true := h1
    have h3 : ¬ a.size ≤ 9 := by have := of_decide_eq_false h; simp at this; omega
    simp [reachOkB, h2, h3]
  · have h2 : rangeOkB a b = false := h
    simp [reachOkB, h2]
theorem iReachOk_ok : FnOk Try.prog 128 cReachOk := fnOk_of fun x => fn_at tab_ok (SOk.cons iRangeOk_ok SOk.nil) mixed (fn := Try.f128) (code := body Try.f128) ⟨Try.func128, rfl, by kernel_rfl, by kernel_rfl, by kernel_rfl, by kernel_rfl⟩ (ev_iReachOk x)

/-! Records -/
structure RecX where
  kind : Int
  key : ByteArray
  val : ByteArray
  lo : ByteArray
  hi : ByteArray
def RecX.ds (r : RecX) : List D := [.lf (.int .i64 r.kind), .lf (.string r.key), .lf (.string r.val), .lf (.string r.lo), .lf (.string r.hi)]
def recOkB (r : RecX) : Bool :=
  if r.kind = 1 then userOkB r.key && uvalOkB r.val && (emp r.lo && emp r.hi)
  else if r.kind = 2 then userOkB r.key && emp r.val && (emp r.lo && emp r.hi)
  else if r.kind = 3 ∨ r.kind = 4 then emp r.key && emp r.val && reachOkB r.lo r.hi
  else false
def cRecOk : Con := pureC RecX [(.rd, true)] [false] (fun r => [r.ds]) (fun r => [[.lf (.bool (recOkB r))]])
theorem ev_sRecOk : ∀ x, evFn tab [(99, cUserOk), (100, cUvalOk), (101, cReachOk)] cRecOk Try.f47 (body Try.f47) x := by
  rintro ⟨kind, key, val, lo, hi⟩
  repeat' ((conv => whnf); first | refine br2 (fun h => ?_) (fun h => ?_) | (refine ⟨key, rfl, ?_⟩; rintro _ _ ⟨rfl, rfl⟩) | (refine ⟨val, rfl, ?_⟩; rintro _ _ ⟨rfl, rfl⟩) | (refine ⟨(lo, hi), rfl, ?_⟩; rintro _ _ ⟨rfl, rfl⟩))
  all_goals (conv => whnf)
  all_goals refine ⟨⟨rfl, ?_⟩⟩
  all_goals show _ = [[D.lf (.bool (recOkB ⟨kind, key, val, lo, hi⟩))]]
  all_goals simp_all [recOkB, emp]
theorem sRecOk_ok : FnOk Try.prog 47 cRecOk := fnOk_of fun x => fn_at tab_ok (SOk.cons sUserOk_ok (SOk.cons sUvalOk_ok (SOk.cons sReachOk_ok SOk.nil))) mixed (fn := Try.f47) (code := body Try.f47) ⟨Try.func47, rfl, by kernel_rfl, by kernel_rfl, by kernel_rfl, by kernel_rfl⟩ (ev_sRecOk x)
theorem ev_iRecOk : ∀ x, evFn tab [(126, cUserOk), (127, cUvalOk), (128, cReachOk)] cRecOk Try.f74 (body Try.f74) x := by
  rintro ⟨kind, key, val, lo, hi⟩
  repeat' ((conv => whnf); first | refine br2 (fun h => ?_) (fun h => ?_) | (refine ⟨key, rfl, ?_⟩; rintro _ _ ⟨rfl, rfl⟩) | (refine ⟨val, rfl, ?_⟩; rintro _ _ ⟨rfl, rfl⟩) | (refine ⟨(lo, hi), rfl, ?_⟩; rintro _ _ ⟨rfl, rfl⟩))
  all_goals (conv => whnf)
  all_goals refine ⟨⟨rfl, ?_⟩⟩
  all_goals show _ = [[D.lf (.bool (recOkB ⟨kind, key, val, lo, hi⟩))]]
  all_goals simp_all [recOkB, emp]
theorem iRecOk_ok : FnOk Try.prog 74 cRecOk := fnOk_of fun x => fn_at tab_ok (SOk.cons iUserOk_ok (SOk.cons iUvalOk_ok (SOk.cons iReachOk_ok SOk.nil))) mixed (fn := Try.f74) (code := body Try.f74) ⟨Try.func74, rfl, by kernel_rfl, by kernel_rfl, by kernel_rfl, by kernel_rfl⟩ (ev_iRecOk x)
theorem eqf_strs (a b : ByteArray) : (!strEq a b) = true ↔ a ≠ b := by rw [Bool.not_eq_true', strEq_no]

/-! Equal structs -/
structure Rng2 where
  a : ByteArray
  b : ByteArray
  c : ByteArray
  d : ByteArray
def cEqRange : Con := pureC Rng2 [(.rd, true), (.rd, true)] [false] (fun x => [[.lf (.string x.a), .lf (.string x.b)], [.lf (.string x.c), .lf (.string x.d)]]) (fun x => [[.lf (.bool (strEq x.a x.c && strEq x.b x.d))]])
theorem ev_eqRange : ∀ x, evFn tab [] cEqRange Try.f80 (body Try.f80) x := by
  rintro ⟨a, b, c, d⟩
  repeat' ((conv => whnf); refine br2 (fun h => ?_) (fun h => ?_))
  all_goals (conv => whnf)
  all_goals refine ⟨⟨rfl, ?_⟩⟩
  all_goals show _ = [[D.lf (.bool (strEq a c && strEq b d))]]
  all_goals simp_all
theorem eqRange_ok : FnOk Try.prog 80 cEqRange := fnOk_of fun x => fn_at tab_ok (SOk.nil) mixed (fn := Try.f80) (code := body Try.f80) ⟨Try.func80, rfl, by kernel_rfl, by kernel_rfl, by kernel_rfl, by kernel_rfl⟩ (ev_eqRange x)
noncomputable def cEqRec : Con := pureC (RecX × RecX) [(.rd, true), (.rd, true)] [false] (fun x => [x.1.ds, x.2.ds]) (fun x => [[.lf (.bool (eqX x.1 x.2))]])
theorem ev_eqRec : ∀ x, evFn tab [(80, cEqRange)] cEqRec Try.f26 (body Try.f26) x := by
  rintro ⟨⟨k, a, b, c, d⟩, ⟨k', a', b', c', d'⟩⟩
  repeat' ((conv => whnf); first | refine br2 (fun h => ?_) (fun h => ?_) | (refine ⟨⟨c, d, c', d'⟩, rfl, ?_⟩; rintro _ _ ⟨rfl, rfl⟩))
  all_goals (conv => whnf)
  all_goals refine ⟨⟨rfl, ?_⟩⟩
  all_goals show _ = [[D.lf (.bool (eqX (⟨k, a, b, c, d⟩ : RecX) ⟨k', a', b', c', d'⟩))]]
  all_goals congr 4
  all_goals rw [eq_comm]
  all_goals simp_all [strEq_iff, strEq_no, eqX_iff, eqX_no]
  exact fun e1 e2 => h.elim (fun h => h e1) (fun h => h e2)
theorem eqRec_ok : FnOk Try.prog 26 cEqRec := fnOk_of fun x => fn_at tab_ok (SOk.cons eqRange_ok SOk.nil) mixed (fn := Try.f26) (code := body Try.f26) ⟨Try.func26, rfl, by kernel_rfl, by kernel_rfl, by kernel_rfl, by kernel_rfl⟩ (ev_eqRec x)
end Go.Vm
namespace Go.Vm
open Go.Proofs
set_option maxRecDepth 100000
set_option linter.unusedVariables false
set_option linter.unusedSimpArgs false

structure TxX where
  c : Int
  e : Int
  n : Int
def TxX.ds (x : TxX) : List D := [.lf (.int .i64 x.c), .lf (.int .i64 x.e), .lf (.int .i64 x.n)]
structure RngX where
  lo : ByteArray
  hi : ByteArray
def RngX.ds (x : RngX) : List D := [.lf (.string x.lo), .lf (.string x.hi)]
structure LockX where
  tx : TxX
  rng : RngX
  ex : Bool
def LockX.ds (x : LockX) : List D := [.lf (.int .i64 x.tx.c), .lf (.int .i64 x.tx.e), .lf (.int .i64 x.tx.n), .lf (.string x.rng.lo), .lf (.string x.rng.hi), .lf (.bool x.ex)]
theorem LockX.len (x : LockX) : x.ds.length = 6 := rfl
theorem LockX.flat (x : LockX) : flatL x.ds = true := rfl

/-- A copy of a struct; of a slice; whether two are alike; how large one is. -/
def cCopy {X : Type} (ds : X → List D) : Con := pureC X [(.rd, true)] [true] (fun x => [ds x]) (fun x => [ds x])
noncomputable def cEq {X : Type} (ds : X → List D) : Con := pureC (X × X) [(.rd, true), (.rd, true)] [false] (fun x => [ds x.1, ds x.2]) (fun x => [[.lf (.bool (eqX x.1 x.2))]])
structure LstX (X : Type) where
  l : List X
  hl : l.length ≤ 1048576
def cCopyS {X : Type} (sz : Nat) (ds : X → List D) : Con := pureC (LstX X) [(.rd, false)] [false] (fun x => [[.row sz ds x.l]]) (fun x => [[.row sz ds x.l]])
noncomputable def cEqS {X : Type} (sz : Nat) (ds : X → List D) : Con := pureC (List X × List X) [(.rd, false), (.rd, false)] [false] (fun x => [[.row sz ds x.1], [.row sz ds x.2]]) (fun x => [[.lf (.bool (eqX x.1 x.2))]])
structure SzX (X : Type) (B0 : X → Prop) where
  x : X
  left : Int
  h1 : 0 ≤ left
  h2 : left ≤ 1048576
  hb : B0 x
/-- What is left behind a struct or a slice is not more; where it is no less than nothing, the sizes fit. -/
def cSz {X : Type} (ds : X → List D) (B0 B : X → Prop) : Con := relC (SzX X B0) [(.rd, true), (.rd, false)] [false] (fun x => [ds x.x, [.lf (.int .i64 x.left)]]) (fun x r => ∃ k : Int, r = [[.lf (.int .i64 k)]] ∧ -1 ≤ k ∧ k ≤ x.left ∧ (0 ≤ k → B x.x))
def cSzS {X : Type} (sz : Nat) (ds : X → List D) (B0 B : X → Prop) : Con := relC (SzX (List X) fun l => l.length ≤ 9223372036854775807 ∧ ∀ y ∈ l, B0 y) [(.rd, false), (.rd, false)] [false] (fun x => [[.row sz ds x.x], [.lf (.int .i64 x.left)]])
  (fun x r => ∃ k : Int, r = [[.lf (.int .i64 k)]] ∧ -1 ≤ k ∧ k ≤ x.left ∧ (0 ≤ k → x.x.length + k ≤ x.left ∧ ∀ y ∈ x.x, B y))
def maxS : Nat := 9223372036854775807
def rngB0 (x : RngX) : Prop := x.lo.size ≤ maxS ∧ x.hi.size ≤ maxS
def rngB (x : RngX) : Prop := x.lo.size ≤ 1048576 ∧ x.hi.size ≤ 1048576
def lockB0 (x : LockX) : Prop := rngB0 x.rng
def lockB (x : LockX) : Prop := rngB x.rng
theorem ev_szRange : ∀ x, evFn tab [] (cSz RngX.ds rngB0 rngB) Try.f40 (body Try.f40) x := by
  rintro ⟨⟨lo, hi⟩, left, h1, h2, hb1, hb2⟩
  replace hb1 : lo.size ≤ 9223372036854775807 := hb1
  replace hb2 : hi.size ≤ 9223372036854775807 := hb2
  conv => whnf
  have e1 : IntKind.i64.wrap (left - (lo.size : Int)) = left - lo.size := w64 (by omega) (by omega)
  refine br2 (fun h3 => ?_) (fun h3 => ?_)
  · conv => whnf
    exact ⟨⟨rfl, -1, rfl, by omega, (show (-1 : Int) ≤ left by omega), fun h => by omega⟩⟩
  · replace h3 : decide (IntKind.i64.wrap (left - (lo.size : Int)) < 0) = false := h3
    rw [e1] at h3
    have h3' := of_decide_eq_false h3
    conv => whnf
    have e2 : IntKind.i64.wrap (IntKind.i64.wrap (left - (lo.size : Int)) - (hi.size : Int)) = left - lo.size - hi.size := by rw [e1]; exact w64 (by omega) (by omega)
    refine br2 (fun h4 => ?_) (fun h4 => ?_)
    · conv => whnf
      exact ⟨⟨rfl, -1, rfl, by omega, (show (-1 : Int) ≤ left by omega), fun h => by omega⟩⟩
    · replace h4 : decide (IntKind.i64.wrap (IntKind.i64.wrap (left - (lo.size : Int)) - (hi.size : Int)) < 0) = false := h4
      rw [e2] at h4
      have h4' := of_decide_eq_false h4
      conv => whnf
      refine ⟨⟨rfl, _, rfl, ?_, ?_, fun _ => (⟨by omega, by omega⟩ : lo.size ≤ 1048576 ∧ hi.size ≤ 1048576)⟩⟩
      · show -1 ≤ IntKind.i64.wrap (IntKind.i64.wrap (left - (lo.size : Int)) - (hi.size : Int))
        rw [e2]; omega
      · show IntKind.i64.wrap (IntKind.i64.wrap (left - (lo.size : Int)) - (hi.size : Int)) ≤ left
        rw [e2]; omega
theorem szRange_ok : FnOk Try.prog 40 (cSz RngX.ds rngB0 rngB) := fnOk_of fun x => fn_at tab_ok (SOk.nil) mixed (fn := Try.f40) (code := body Try.f40) ⟨Try.func40, rfl, by kernel_rfl, by kernel_rfl, by kernel_rfl, by kernel_rfl⟩ (ev_szRange x)
theorem ev_szLock : ∀ x, evFn tab [(40, (cSz RngX.ds rngB0 rngB))] (cSz LockX.ds lockB0 lockB) Try.f132 (body Try.f132) x := by
  rintro ⟨x, left, h1, h2, hb⟩
  conv => whnf
  refine ⟨⟨x.rng, left, h1, h2, hb⟩, rfl, ?_⟩
  rintro _ _ ⟨rfl, k, rfl, k1, k2, k3⟩
  replace k2 : k ≤ left := k2
  conv => whnf
  refine br2 (fun h3 => ?_) (fun h3 => ?_)
  · conv => whnf
    exact ⟨⟨rfl, -1, rfl, by omega, (show (-1 : Int) ≤ left by omega), fun h => by omega⟩⟩
  · conv => whnf
    exact ⟨⟨rfl, k, rfl, k1, k2, k3⟩⟩
theorem szLock_ok : FnOk Try.prog 132 (cSz LockX.ds lockB0 lockB) := fnOk_of fun x => fn_at tab_ok (SOk.cons szRange_ok SOk.nil) mixed (fn := Try.f132) (code := body Try.f132) ⟨Try.func132, rfl, by kernel_rfl, by kernel_rfl, by kernel_rfl, by kernel_rfl⟩ (ev_szLock x)
theorem ev_szPair : ∀ x, evFn tab [] (cSz RngX.ds rngB0 rngB) Try.f144 (body Try.f144) x := by
  rintro ⟨⟨lo, hi⟩, left, h1, h2, hb1, hb2⟩
  replace hb1 : lo.size ≤ 9223372036854775807 := hb1
  replace hb2 : hi.size ≤ 9223372036854775807 := hb2
  conv => whnf
  have e1 : IntKind.i64.wrap (left - (lo.size : Int)) = left - lo.size := w64 (by omega) (by omega)
  refine br2 (fun h3 => ?_) (fun h3 => ?_)
  · conv => whnf
    exact ⟨⟨rfl, -1, rfl, by omega, (show (-1 : Int) ≤ left by omega), fun h => by omega⟩⟩
  · replace h3 : decide (IntKind.i64.wrap (left - (lo.size : Int)) < 0) = false := h3
    rw [e1] at h3
    have h3' := of_decide_eq_false h3
    conv => whnf
    have e2 : IntKind.i64.wrap (IntKind.i64.wrap (left - (lo.size : Int)) - (hi.size : Int)) = left - lo.size - hi.size := by rw [e1]; exact w64 (by omega) (by omega)
    refine br2 (fun h4 => ?_) (fun h4 => ?_)
    · conv => whnf
      exact ⟨⟨rfl, -1, rfl, by omega, (show (-1 : Int) ≤ left by omega), fun h => by omega⟩⟩
    · replace h4 : decide (IntKind.i64.wrap (IntKind.i64.wrap (left - (lo.size : Int)) - (hi.size : Int)) < 0) = false := h4
      rw [e2] at h4
      have h4' := of_decide_eq_false h4
      conv => whnf
      refine ⟨⟨rfl, _, rfl, ?_, ?_, fun _ => (⟨by omega, by omega⟩ : lo.size ≤ 1048576 ∧ hi.size ≤ 1048576)⟩⟩
      · show -1 ≤ IntKind.i64.wrap (IntKind.i64.wrap (left - (lo.size : Int)) - (hi.size : Int))
        rw [e2]; omega
      · show IntKind.i64.wrap (IntKind.i64.wrap (left - (lo.size : Int)) - (hi.size : Int)) ≤ left
        rw [e2]; omega
theorem szPair_ok : FnOk Try.prog 144 (cSz RngX.ds rngB0 rngB) := fnOk_of fun x => fn_at tab_ok (SOk.nil) mixed (fn := Try.f144) (code := body Try.f144) ⟨Try.func144, rfl, by kernel_rfl, by kernel_rfl, by kernel_rfl, by kernel_rfl⟩ (ev_szPair x)
theorem ev_szLockS : ∀ x, evFn tab [(132, (cSz LockX.ds lockB0 lockB))] (cSzS 6 LockX.ds lockB0 lockB) Try.f81 (body Try.f81) x := by
  rintro ⟨l, left, h1, h2, hb0, hb⟩
  replace hb0 : l.length ≤ 9223372036854775807 := hb0
  conv => whnf
  intro h3
  conv => whnf
  have e1 : IntKind.i64.wrap (left - (l.length : Int)) = left - l.length := w64 (by omega) (by omega)
  refine br2 (fun h4 => ?_) (fun h4 => ?_)
  · conv => whnf
    exact ⟨⟨rfl, -1, rfl, by omega, (show (-1 : Int) ≤ left by omega), fun h => by omega⟩⟩
  replace h4 : decide (IntKind.i64.wrap (left - (l.length : Int)) < 0) = false := h4
  rw [e1] at h4
  have h4' := of_decide_eq_false h4
  conv => whnf
  refine ⟨fun m s h => ∃ (i : Nat) (k : Int), i ≤ l.length ∧ 0 ≤ k ∧ k ≤ left - l.length ∧ (∀ j y, j < i → l[j]? = some y → lockB y) ∧ m = l.length - i ∧ s = [(0, .sl 0 none), (1, .lf (.int .i64 k)), (5, .lf (.int .i64 i))] ∧ h = [(0, some (.row .lent 6 LockX.ds l))],
    l.length, [(0, 0)], [(0, .sl 0 none), (1, .lf (.int .i64 (left - l.length))), (5, .lf (.int .i64 0))], [(0, some (.row .lent 6 LockX.ds l))], ⟨rfl, ⟨rfl, ?_, rfl, trivial⟩, ⟨rfl, trivial⟩⟩, ⟨0, left - l.length, by omega, by omega, by omega, fun j y h => by omega, by omega, rfl, rfl⟩, ?_⟩
  · show V.lf (.int .i64 (IntKind.i64.wrap (left - (l.length : Int)))) = _
    rw [e1]
  rintro m _ _ ⟨i, k, g1, g2, g3, g4, rfl, rfl, rfl⟩
  conv => whnf
  intro _
  conv => whnf
  refine br2 (fun h5 => ?_) (fun h5 => ?_)
  · have hi : i < l.length := by have := of_decide_eq_true h5; omega
    obtain ⟨y, hy⟩ : ∃ y, l[i]? = some y := ⟨_, List.getElem?_eq_getElem hi⟩
    have hy2 : nth l ((i : Nat) : Int).toNat = some y := by rw [nth_eq, Int.toNat_natCast]; exact hy
    conv => whnf
    refine ⟨Int.natCast_nonneg _, (show (i : Int) < (l.length : Int) by omega), ?_⟩
    conv => whnf
    refine ex2 y hy2 ?_
    conv => whnf
    refine ⟨⟨y, k, g2, by omega, hb y (List.mem_of_getElem? hy)⟩, rfl, ?_⟩
    rintro _ _ ⟨rfl, k', rfl, k1, k2, k3⟩
    replace k2 : k' ≤ k := k2
    conv => whnf
    refine br2 (fun h6 => ?_) (fun h6 => ?_)
    · conv => whnf
      exact ⟨⟨rfl, -1, rfl, by omega, (show (-1 : Int) ≤ left by omega), fun h => by omega⟩⟩
    · have h6' := of_decide_eq_false h6
      conv => whnf
      refine ⟨l.length - (i + 1), [(0, 0)], [(0, .sl 0 none), (1, .lf (.int .i64 k')), (5, .lf (.int .i64 ((i + 1 : Nat) : Int)))], [(0, some (.row .lent 6 LockX.ds l))], by omega, ⟨rfl, ⟨rfl, rfl, ?_, trivial⟩, ⟨rfl, trivial⟩⟩, i + 1, k', by omega, by omega, by omega, fun j z hj hz => ?_, rfl, rfl, rfl⟩
      · show V.lf (.int .i64 (IntKind.i64.wrap ((i : Int) + 1))) = _
        rw [w64 (by omega) (by omega)]; rfl
      · rcases Nat.lt_or_ge j i with h7 | h7
        · exact g4 j z h7 hz
        · obtain rfl : j = i := by omega
          rw [hy] at hz; cases hz; exact k3 (by omega)
  · have hi : i = l.length := by have := of_decide_eq_false h5; omega
    conv => whnf
    refine ⟨⟨rfl, k, rfl, by omega, (show k ≤ left by omega), fun _ => (⟨by omega, fun y hy => ?_⟩ : (l.length : Int) + k ≤ left ∧ ∀ y ∈ l, lockB y)⟩⟩
    obtain ⟨j, hj⟩ := List.getElem?_of_mem hy
    exact g4 j y (by rw [hi]; exact (List.getElem?_eq_some_iff.1 hj).1) hj
theorem szLockS_ok : FnOk Try.prog 81 (cSzS 6 LockX.ds lockB0 lockB) := fnOk_of fun x => fn_at tab_ok (SOk.cons szLock_ok SOk.nil) mixed (fn := Try.f81) (code := body Try.f81) ⟨Try.func81, rfl, by kernel_rfl, by kernel_rfl, by kernel_rfl, by kernel_rfl⟩ (ev_szLockS x)
theorem ev_szPairS : ∀ x, evFn tab [(144, (cSz RngX.ds rngB0 rngB))] (cSzS 2 RngX.ds rngB0 rngB) Try.f103 (body Try.f103) x := by
  rintro ⟨l, left, h1, h2, hb0, hb⟩
  replace hb0 : l.length ≤ 9223372036854775807 := hb0
  conv => whnf
  intro h3
  conv => whnf
  have e1 : IntKind.i64.wrap (left - (l.length : Int)) = left - l.length := w64 (by omega) (by omega)
  refine br2 (fun h4 => ?_) (fun h4 => ?_)
  · conv => whnf
    exact ⟨⟨rfl, -1, rfl, by omega, (show (-1 : Int) ≤ left by omega), fun h => by omega⟩⟩
  replace h4 : decide (IntKind.i64.wrap (left - (l.length : Int)) < 0) = false := h4
  rw [e1] at h4
  have h4' := of_decide_eq_false h4
  conv => whnf
  refine ⟨fun m s h => ∃ (i : Nat) (k : Int), i ≤ l.length ∧ 0 ≤ k ∧ k ≤ left - l.length ∧ (∀ j y, j < i → l[j]? = some y → rngB y) ∧ m = l.length - i ∧ s = [(0, .sl 0 none), (1, .lf (.int .i64 k)), (5, .lf (.int .i64 i))] ∧ h = [(0, some (.row .lent 2 RngX.ds l))],
    l.length, [(0, 0)], [(0, .sl 0 none), (1, .lf (.int .i64 (left - l.length))), (5, .lf (.int .i64 0))], [(0, some (.row .lent 2 RngX.ds l))], ⟨rfl, ⟨rfl, ?_, rfl, trivial⟩, ⟨rfl, trivial⟩⟩, ⟨0, left - l.length, by omega, by omega, by omega, fun j y h => by omega, by omega, rfl, rfl⟩, ?_⟩
  · show V.lf (.int .i64 (IntKind.i64.wrap (left - (l.length : Int)))) = _
    rw [e1]
  rintro m _ _ ⟨i, k, g1, g2, g3, g4, rfl, rfl, rfl⟩
  conv => whnf
  intro _
  conv => whnf
  refine br2 (fun h5 => ?_) (fun h5 => ?_)
  · have hi : i < l.length := by have := of_decide_eq_true h5; omega
    obtain ⟨y, hy⟩ : ∃ y, l[i]? = some y := ⟨_, List.getElem?_eq_getElem hi⟩
    have hy2 : nth l ((i : Nat) : Int).toNat = some y := by rw [nth_eq, Int.toNat_natCast]; exact hy
    conv => whnf
    refine ⟨Int.natCast_nonneg _, (show (i : Int) < (l.length : Int) by omega), ?_⟩
    conv => whnf
    refine ex2 y hy2 ?_
    conv => whnf
    refine ⟨⟨y, k, g2, by omega, hb y (List.mem_of_getElem? hy)⟩, rfl, ?_⟩
    rintro _ _ ⟨rfl, k', rfl, k1, k2, k3⟩
    replace k2 : k' ≤ k := k2
    conv => whnf
    refine br2 (fun h6 => ?_) (fun h6 => ?_)
    · conv => whnf
      exact ⟨⟨rfl, -1, rfl, by omega, (show (-1 : Int) ≤ left by omega), fun h => by omega⟩⟩
    · have h6' := of_decide_eq_false h6
      conv => whnf
      refine ⟨l.length - (i + 1), [(0, 0)], [(0, .sl 0 none), (1, .lf (.int .i64 k')), (5, .lf (.int .i64 ((i + 1 : Nat) : Int)))], [(0, some (.row .lent 2 RngX.ds l))], by omega, ⟨rfl, ⟨rfl, rfl, ?_, trivial⟩, ⟨rfl, trivial⟩⟩, i + 1, k', by omega, by omega, by omega, fun j z hj hz => ?_, rfl, rfl, rfl⟩
      · show V.lf (.int .i64 (IntKind.i64.wrap ((i : Int) + 1))) = _
        rw [w64 (by omega) (by omega)]; rfl
      · rcases Nat.lt_or_ge j i with h7 | h7
        · exact g4 j z h7 hz
        · obtain rfl : j = i := by omega
          rw [hy] at hz; cases hz; exact k3 (by omega)
  · have hi : i = l.length := by have := of_decide_eq_false h5; omega
    conv => whnf
    refine ⟨⟨rfl, k, rfl, by omega, (show k ≤ left by omega), fun _ => (⟨by omega, fun y hy => ?_⟩ : (l.length : Int) + k ≤ left ∧ ∀ y ∈ l, rngB y)⟩⟩
    obtain ⟨j, hj⟩ := List.getElem?_of_mem hy
    exact g4 j y (by rw [hi]; exact (List.getElem?_eq_some_iff.1 hj).1) hj
theorem szPairS_ok : FnOk Try.prog 103 (cSzS 2 RngX.ds rngB0 rngB) := fnOk_of fun x => fn_at tab_ok (SOk.cons szPair_ok SOk.nil) mixed (fn := Try.f103) (code := body Try.f103) ⟨Try.func103, rfl, by kernel_rfl, by kernel_rfl, by kernel_rfl, by kernel_rfl⟩ (ev_szPairS x)

theorem ev_toTx : ∀ x, evFn tab [] (cCopy TxX.ds) Try.f42 (body Try.f42) x := by
  intro x
  conv => whnf
  exact ⟨⟨rfl, rfl⟩⟩
theorem toTx_ok : FnOk Try.prog 42 (cCopy TxX.ds) := fnOk_of fun x => fn_at tab_ok (SOk.nil) mixed (fn := Try.f42) (code := body Try.f42) ⟨Try.func42, rfl, by kernel_rfl, by kernel_rfl, by kernel_rfl, by kernel_rfl⟩ (ev_toTx x)
theorem ev_toRange : ∀ x, evFn tab [] (cCopy RngX.ds) Try.f43 (body Try.f43) x := by
  intro x
  conv => whnf
  exact ⟨⟨rfl, rfl⟩⟩
theorem toRange_ok : FnOk Try.prog 43 (cCopy RngX.ds) := fnOk_of fun x => fn_at tab_ok (SOk.nil) mixed (fn := Try.f43) (code := body Try.f43) ⟨Try.func43, rfl, by kernel_rfl, by kernel_rfl, by kernel_rfl, by kernel_rfl⟩ (ev_toRange x)
theorem ev_toPair : ∀ x, evFn tab [] (cCopy RngX.ds) Try.f145 (body Try.f145) x := by
  intro x
  conv => whnf
  exact ⟨⟨rfl, rfl⟩⟩
theorem toPair_ok : FnOk Try.prog 145 (cCopy RngX.ds) := fnOk_of fun x => fn_at tab_ok (SOk.nil) mixed (fn := Try.f145) (code := body Try.f145) ⟨Try.func145, rfl, by kernel_rfl, by kernel_rfl, by kernel_rfl, by kernel_rfl⟩ (ev_toPair x)
theorem ev_toLock : ∀ x, evFn tab [(42, (cCopy TxX.ds)), (43, (cCopy RngX.ds))] (cCopy LockX.ds) Try.f134 (body Try.f134) x := by
  intro x
  conv => whnf
  refine ⟨x.tx, rfl, ?_⟩
  rintro _ _ ⟨rfl, rfl⟩
  conv => whnf
  refine ⟨x.rng, rfl, ?_⟩
  rintro _ _ ⟨rfl, rfl⟩
  conv => whnf
  exact ⟨⟨rfl, rfl⟩⟩
theorem toLock_ok : FnOk Try.prog 134 (cCopy LockX.ds) := fnOk_of fun x => fn_at tab_ok (SOk.cons toTx_ok (SOk.cons toRange_ok SOk.nil)) mixed (fn := Try.f134) (code := body Try.f134) ⟨Try.func134, rfl, by kernel_rfl, by kernel_rfl, by kernel_rfl, by kernel_rfl⟩ (ev_toLock x)
theorem ev_eqTx : ∀ x, evFn tab [] (cEq TxX.ds) Try.f75 (body Try.f75) x := by
  rintro ⟨⟨a, b, c⟩, ⟨d, e, f⟩⟩
  repeat' ((conv => whnf); refine br2 (fun h => ?_) (fun h => ?_))
  all_goals (conv => whnf)
  all_goals refine ⟨⟨rfl, ?_⟩⟩
  all_goals show _ = [[D.lf (.bool (eqX (⟨a, b, c⟩ : TxX) ⟨d, e, f⟩))]]
  all_goals congr 4
  all_goals rw [eq_comm]
  all_goals simp_all [eqX_iff, eqX_no]
theorem eqTx_ok : FnOk Try.prog 75 (cEq TxX.ds) := fnOk_of fun x => fn_at tab_ok (SOk.nil) mixed (fn := Try.f75) (code := body Try.f75) ⟨Try.func75, rfl, by kernel_rfl, by kernel_rfl, by kernel_rfl, by kernel_rfl⟩ (ev_eqTx x)
theorem ev_eqPair : ∀ x, evFn tab [] (cEq RngX.ds) Try.f150 (body Try.f150) x := by
  rintro ⟨⟨a, b⟩, ⟨c, d⟩⟩
  repeat' ((conv => whnf); refine br2 (fun h => ?_) (fun h => ?_))
  all_goals (conv => whnf)
  all_goals refine ⟨⟨rfl, ?_⟩⟩
  all_goals show _ = [[D.lf (.bool (eqX (⟨a, b⟩ : RngX) ⟨c, d⟩))]]
  all_goals congr 4
  all_goals rw [eq_comm]
  all_goals simp_all [eqX_iff, eqX_no, strEq_iff, strEq_no]
theorem eqPair_ok : FnOk Try.prog 150 (cEq RngX.ds) := fnOk_of fun x => fn_at tab_ok (SOk.nil) mixed (fn := Try.f150) (code := body Try.f150) ⟨Try.func150, rfl, by kernel_rfl, by kernel_rfl, by kernel_rfl, by kernel_rfl⟩ (ev_eqPair x)
theorem ev_eqLock : ∀ x, evFn tab [(75, (cEq TxX.ds)), (80, cEqRange)] (cEq LockX.ds) Try.f116 (body Try.f116) x := by
  rintro ⟨⟨x, ⟨a, b⟩, e⟩, ⟨y, ⟨c, d⟩, f⟩⟩
  repeat' ((conv => whnf); first | refine br2 (fun h => ?_) (fun h => ?_) | (refine ⟨(x, y), rfl, ?_⟩; rintro _ _ ⟨rfl, rfl⟩) | (refine ⟨⟨a, b, c, d⟩, rfl, ?_⟩; rintro _ _ ⟨rfl, rfl⟩))
  all_goals (conv => whnf)
  all_goals refine ⟨⟨rfl, ?_⟩⟩
  all_goals show _ = [[D.lf (.bool (eqX (⟨x, ⟨a, b⟩, e⟩ : LockX) ⟨y, ⟨c, d⟩, f⟩))]]
  all_goals congr 4
  all_goals rw [eq_comm]
  all_goals simp_all [eqX_iff, eqX_no, strEq_iff, strEq_no]
  exact fun e1 e2 _ => h.elim (fun h => h e1) (fun h => h e2)
theorem eqLock_ok : FnOk Try.prog 116 (cEq LockX.ds) := fnOk_of fun x => fn_at tab_ok (SOk.cons eqTx_ok (SOk.cons eqRange_ok SOk.nil)) mixed (fn := Try.f116) (code := body Try.f116) ⟨Try.func116, rfl, by kernel_rfl, by kernel_rfl, by kernel_rfl, by kernel_rfl⟩ (ev_eqLock x)
def rng0 : RngX := ⟨⟨#[]⟩, ⟨#[]⟩⟩
def lock0 : LockX := ⟨⟨0, 0, 0⟩, ⟨⟨#[]⟩, ⟨#[]⟩⟩, false⟩
theorem set_at {α : Type} {l : List α} {i j : Nat} {y : α} (hi : i < l.length) : (l.set i y)[j]? = if i = j then some y else l[j]? := by
  rw [List.getElem?_set]
  split
  · rename_i e; subst e; simp [hi]
  · rfl
theorem ev_toLockS : ∀ x, evFn tab [(134, (cCopy LockX.ds))] (cCopyS 6 LockX.ds) Try.f85 (body Try.f85) x := by
  rintro ⟨l, hl⟩
  conv => whnf
  intro h1
  conv => whnf
  refine ⟨Int.natCast_nonneg _, rfl, ?_, ?_⟩
  · show (l.length : Int) ≤ (4294967296 : Nat); omega
  conv => whnf
  refine ⟨LockX, LockX.ds, lock0, fun _ => rfl, rfl, ?_⟩
  conv => whnf
  refine ⟨fun m s h => ∃ (i : Nat) (l' : List LockX), i ≤ l.length ∧ l'.length = l.length ∧ (∀ j, j < i → l'[j]? = l[j]?) ∧ m = l.length - i ∧ s = [(0, .sl 0 none), (3, .sl 112 none), (4, .lf (.int .i64 i))] ∧ h = [(112, some (.row .own 6 LockX.ds l')), (0, some (.row .lent 6 LockX.ds l))],
    l.length, [(112, 112), (0, 0)], [(0, .sl 0 none), (3, .sl 112 none), (4, .lf (.int .i64 0))], [(112, some (.row .own 6 LockX.ds (List.replicate (l.length : Int).toNat lock0))), (0, some (.row .lent 6 LockX.ds l))], ⟨rfl, ⟨rfl, rfl, rfl, trivial⟩, ⟨rfl, rfl, trivial⟩⟩,
    ⟨0, _, by omega, by rw [List.length_replicate, Int.toNat_natCast], fun j h => by omega, by omega, rfl, rfl⟩, ?_⟩
  rintro m _ _ ⟨i, l', g1, g2, g3, rfl, rfl, rfl⟩
  conv => whnf
  intro _
  conv => whnf
  refine br2 (fun h5 => ?_) (fun h5 => ?_)
  · have hi : i < l.length := by have := of_decide_eq_true h5; omega
    obtain ⟨y, hy⟩ : ∃ y, l[i]? = some y := ⟨_, List.getElem?_eq_getElem hi⟩
    have hy2 : nth l ((i : Nat) : Int).toNat = some y := by rw [nth_eq, Int.toNat_natCast]; exact hy
    obtain ⟨z, hz⟩ : ∃ z, l'[i]? = some z := ⟨_, List.getElem?_eq_getElem (by omega)⟩
    have hz2 : nth l' ((i : Nat) : Int).toNat = some z := by rw [nth_eq, Int.toNat_natCast]; exact hz
    conv => whnf
    refine ⟨Int.natCast_nonneg _, (show (i : Int) < (l.length : Int) by omega), ?_⟩
    conv => whnf
    refine ex2 y hy2 ?_
    conv => whnf
    refine ⟨y, rfl, ?_⟩
    rintro _ _ ⟨rfl, rfl⟩
    conv => whnf
    refine ⟨Int.natCast_nonneg _, (show (i : Int) < (l'.length : Int) by omega), ?_⟩
    conv => whnf
    refine ex2 z hz2 ?_
    conv => whnf
    refine ⟨y, rfl, ?_⟩
    conv => whnf
    refine ⟨l.length - (i + 1), [(112, 112), (0, 0)], [(0, .sl 0 none), (3, .sl 112 none), (4, .lf (.int .i64 ((i + 1 : Nat) : Int)))], [(112, some (.row .own 6 LockX.ds (l'.set (i : Int).toNat y))), (0, some (.row .lent 6 LockX.ds l))], by omega, ⟨rfl, ⟨rfl, rfl, ?_, trivial⟩, ⟨rfl, rfl, trivial⟩⟩, i + 1, _, by omega, ?_, fun j hj => ?_, rfl, rfl, rfl⟩
    · show V.lf (.int .i64 (IntKind.i64.wrap ((i : Int) + 1))) = _
      rw [w64 (by omega) (by omega)]; rfl
    · rw [List.length_set]; exact g2
    · rw [Int.toNat_natCast, set_at (by omega)]
      split
      · rename_i e; subst e; exact hy.symm
      · exact g3 j (by omega)
  · have hi : i = l.length := by have := of_decide_eq_false h5; omega
    conv => whnf
    refine ⟨⟨rfl, ?_⟩⟩
    have : l' = l := by
      apply List.ext_getElem?
      intro j
      rcases Nat.lt_or_ge j l.length with h | h
      · exact g3 j (by omega)
      · rw [List.getElem?_eq_none (by omega), List.getElem?_eq_none h]
    show [[D.row _ LockX.ds l']] = [[D.row 6 LockX.ds l]]
    rw [this]
theorem toLockS_ok : FnOk Try.prog 85 (cCopyS 6 LockX.ds) := fnOk_of fun x => fn_at tab_ok (SOk.cons toLock_ok SOk.nil) mixed (fn := Try.f85) (code := body Try.f85) ⟨Try.func85, rfl, by kernel_rfl, by kernel_rfl, by kernel_rfl, by kernel_rfl⟩ (ev_toLockS x)
theorem ev_eqLockS : ∀ x, evFn tab [(116, (cEq LockX.ds))] (cEqS 6 LockX.ds) Try.f55 (body Try.f55) x := by
  rintro ⟨l, m⟩
  conv => whnf
  intro h1
  conv => whnf
  intro h2
  conv => whnf
  refine br2 (fun h3 => ?_) (fun h3 => ?_)
  · conv => whnf
    refine ⟨⟨rfl, ?_⟩⟩
    show _ = [[D.lf (.bool (eqX l m))]]
    have : l ≠ m := by rintro rfl; simp at h3
    rw [eqX_no.2 this]
  have hl : l.length = m.length := by
    replace h3 : ((l.length : Int) != (m.length : Int)) = false := h3
    simp at h3; omega
  conv => whnf
  refine ⟨fun k s h => ∃ i : Nat, i ≤ l.length ∧ (∀ j, j < i → l[j]? = m[j]?) ∧ k = l.length - i ∧ s = [(0, .sl 0 none), (1, .sl 16 none), (5, .lf (.int .i64 i))] ∧ h = [(0, some (.row .lent 6 LockX.ds l)), (16, some (.row .lent 6 LockX.ds m))],
    l.length, [(0, 0), (16, 16)], [(0, .sl 0 none), (1, .sl 16 none), (5, .lf (.int .i64 0))], [(0, some (.row .lent 6 LockX.ds l)), (16, some (.row .lent 6 LockX.ds m))], ⟨rfl, ⟨rfl, rfl, rfl, trivial⟩, ⟨rfl, rfl, trivial⟩⟩, ⟨0, by omega, fun j h => by omega, by omega, rfl, rfl⟩, ?_⟩
  rintro k _ _ ⟨i, g1, g2, rfl, rfl, rfl⟩
  conv => whnf
  intro h4
  conv => whnf
  refine br2 (fun h5 => ?_) (fun h5 => ?_)
  · have hi : i < l.length := by have := of_decide_eq_true h5; omega
    obtain ⟨y, hy⟩ : ∃ y, l[i]? = some y := ⟨_, List.getElem?_eq_getElem hi⟩
    have hy2 : nth l ((i : Nat) : Int).toNat = some y := by rw [nth_eq, Int.toNat_natCast]; exact hy
    obtain ⟨z, hz⟩ : ∃ z, m[i]? = some z := ⟨_, List.getElem?_eq_getElem (by omega)⟩
    have hz2 : nth m ((i : Nat) : Int).toNat = some z := by rw [nth_eq, Int.toNat_natCast]; exact hz
    conv => whnf
    refine ⟨Int.natCast_nonneg _, (show (i : Int) < (l.length : Int) by omega), ?_⟩
    conv => whnf
    refine ex2 y hy2 ?_
    conv => whnf
    refine ⟨Int.natCast_nonneg _, (show (i : Int) < (m.length : Int) by omega), ?_⟩
    conv => whnf
    refine ex2 z hz2 ?_
    conv => whnf
    refine ⟨(y, z), rfl, ?_⟩
    rintro _ _ ⟨rfl, rfl⟩
    conv => whnf
    refine br2 (fun h6 => ?_) (fun h6 => ?_)
    · replace h6 : (!eqX y z) = true := h6
      rw [Bool.not_eq_true', eqX_no] at h6
      conv => whnf
      refine ⟨⟨rfl, ?_⟩⟩
      show _ = [[D.lf (.bool (eqX l m))]]
      have : l ≠ m := by rintro rfl; rw [hy] at hz; cases hz; exact h6 rfl
      rw [eqX_no.2 this]
    · replace h6 : (!eqX y z) = false := h6
      rw [Bool.not_eq_false', eqX_iff] at h6
      conv => whnf
      refine ⟨l.length - (i + 1), [(0, 0), (16, 16)], [(0, .sl 0 none), (1, .sl 16 none), (5, .lf (.int .i64 ((i + 1 : Nat) : Int)))], [(0, some (.row .lent 6 LockX.ds l)), (16, some (.row .lent 6 LockX.ds m))], by omega, ⟨rfl, ⟨rfl, rfl, ?_, trivial⟩, ⟨rfl, rfl, trivial⟩⟩, i + 1, by omega, fun j hj => ?_, rfl, rfl, rfl⟩
      · show V.lf (.int .i64 (IntKind.i64.wrap ((i : Int) + 1))) = _
        replace h4 : l.length ≤ 9223372036854775807 := h4
        rw [w64 (by omega) (by omega)]; rfl
      · rcases Nat.lt_or_ge j i with h7 | h7
        · exact g2 j h7
        · obtain rfl : j = i := by omega
          rw [hy, hz, h6]
  · have hi : i = l.length := by have := of_decide_eq_false h5; omega
    conv => whnf
    refine ⟨⟨rfl, ?_⟩⟩
    show _ = [[D.lf (.bool (eqX l m))]]
    have : l = m := by
      apply List.ext_getElem?
      intro j
      rcases Nat.lt_or_ge j l.length with h | h
      · exact g2 j (by omega)
      · rw [List.getElem?_eq_none h, List.getElem?_eq_none (by omega)]
    rw [eqX_iff.2 this]
theorem eqLockS_ok : FnOk Try.prog 55 (cEqS 6 LockX.ds) := fnOk_of fun x => fn_at tab_ok (SOk.cons eqLock_ok SOk.nil) mixed (fn := Try.f55) (code := body Try.f55) ⟨Try.func55, rfl, by kernel_rfl, by kernel_rfl, by kernel_rfl, by kernel_rfl⟩ (ev_eqLockS x)
theorem ev_toPairS : ∀ x, evFn tab [(145, (cCopy RngX.ds))] (cCopyS 2 RngX.ds) Try.f108 (body Try.f108) x := by
  rintro ⟨l, hl⟩
  conv => whnf
  intro h1
  conv => whnf
  refine ⟨Int.natCast_nonneg _, rfl, ?_, ?_⟩
  · show (l.length : Int) ≤ (4294967296 : Nat); omega
  conv => whnf
  refine ⟨RngX, RngX.ds, rng0, fun _ => rfl, rfl, ?_⟩
  conv => whnf
  refine ⟨fun m s h => ∃ (i : Nat) (l' : List RngX), i ≤ l.length ∧ l'.length = l.length ∧ (∀ j, j < i → l'[j]? = l[j]?) ∧ m = l.length - i ∧ s = [(0, .sl 0 none), (3, .sl 112 none), (4, .lf (.int .i64 i))] ∧ h = [(112, some (.row .own 2 RngX.ds l')), (0, some (.row .lent 2 RngX.ds l))],
    l.length, [(112, 112), (0, 0)], [(0, .sl 0 none), (3, .sl 112 none), (4, .lf (.int .i64 0))], [(112, some (.row .own 2 RngX.ds (List.replicate (l.length : Int).toNat rng0))), (0, some (.row .lent 2 RngX.ds l))], ⟨rfl, ⟨rfl, rfl, rfl, trivial⟩, ⟨rfl, rfl, trivial⟩⟩,
    ⟨0, _, by omega, by rw [List.length_replicate, Int.toNat_natCast], fun j h => by omega, by omega, rfl, rfl⟩, ?_⟩
  rintro m _ _ ⟨i, l', g1, g2, g3, rfl, rfl, rfl⟩
  conv => whnf
  intro _
  conv => whnf
  refine br2 (fun h5 => ?_) (fun h5 => ?_)
  · have hi : i < l.length := by have := of_decide_eq_true h5; omega
    obtain ⟨y, hy⟩ : ∃ y, l[i]? = some y := ⟨_, List.getElem?_eq_getElem hi⟩
    have hy2 : nth l ((i : Nat) : Int).toNat = some y := by rw [nth_eq, Int.toNat_natCast]; exact hy
    obtain ⟨z, hz⟩ : ∃ z, l'[i]? = some z := ⟨_, List.getElem?_eq_getElem (by omega)⟩
    have hz2 : nth l' ((i : Nat) : Int).toNat = some z := by rw [nth_eq, Int.toNat_natCast]; exact hz
    conv => whnf
    refine ⟨Int.natCast_nonneg _, (show (i : Int) < (l.length : Int) by omega), ?_⟩
    conv => whnf
    refine ex2 y hy2 ?_
    conv => whnf
    refine ⟨y, rfl, ?_⟩
    rintro _ _ ⟨rfl, rfl⟩
    conv => whnf
    refine ⟨Int.natCast_nonneg _, (show (i : Int) < (l'.length : Int) by omega), ?_⟩
    conv => whnf
    refine ex2 z hz2 ?_
    conv => whnf
    refine ⟨y, rfl, ?_⟩
    conv => whnf
    refine ⟨l.length - (i + 1), [(112, 112), (0, 0)], [(0, .sl 0 none), (3, .sl 112 none), (4, .lf (.int .i64 ((i + 1 : Nat) : Int)))], [(112, some (.row .own 2 RngX.ds (l'.set (i : Int).toNat y))), (0, some (.row .lent 2 RngX.ds l))], by omega, ⟨rfl, ⟨rfl, rfl, ?_, trivial⟩, ⟨rfl, rfl, trivial⟩⟩, i + 1, _, by omega, ?_, fun j hj => ?_, rfl, rfl, rfl⟩
    · show V.lf (.int .i64 (IntKind.i64.wrap ((i : Int) + 1))) = _
      rw [w64 (by omega) (by omega)]; rfl
    · rw [List.length_set]; exact g2
    · rw [Int.toNat_natCast, set_at (by omega)]
      split
      · rename_i e; subst e; exact hy.symm
      · exact g3 j (by omega)
  · have hi : i = l.length := by have := of_decide_eq_false h5; omega
    conv => whnf
    refine ⟨⟨rfl, ?_⟩⟩
    have : l' = l := by
      apply List.ext_getElem?
      intro j
      rcases Nat.lt_or_ge j l.length with h | h
      · exact g3 j (by omega)
      · rw [List.getElem?_eq_none (by omega), List.getElem?_eq_none h]
    show [[D.row _ RngX.ds l']] = [[D.row 2 RngX.ds l]]
    rw [this]
theorem toPairS_ok : FnOk Try.prog 108 (cCopyS 2 RngX.ds) := fnOk_of fun x => fn_at tab_ok (SOk.cons toPair_ok SOk.nil) mixed (fn := Try.f108) (code := body Try.f108) ⟨Try.func108, rfl, by kernel_rfl, by kernel_rfl, by kernel_rfl, by kernel_rfl⟩ (ev_toPairS x)
theorem ev_eqPairS : ∀ x, evFn tab [(150, (cEq RngX.ds))] (cEqS 2 RngX.ds) Try.f113 (body Try.f113) x := by
  rintro ⟨l, m⟩
  conv => whnf
  intro h1
  conv => whnf
  intro h2
  conv => whnf
  refine br2 (fun h3 => ?_) (fun h3 => ?_)
  · conv => whnf
    refine ⟨⟨rfl, ?_⟩⟩
    show _ = [[D.lf (.bool (eqX l m))]]
    have : l ≠ m := by rintro rfl; simp at h3
    rw [eqX_no.2 this]
  have hl : l.length = m.length := by
    replace h3 : ((l.length : Int) != (m.length : Int)) = false := h3
    simp at h3; omega
  conv => whnf
  refine ⟨fun k s h => ∃ i : Nat, i ≤ l.length ∧ (∀ j, j < i → l[j]? = m[j]?) ∧ k = l.length - i ∧ s = [(0, .sl 0 none), (1, .sl 16 none), (5, .lf (.int .i64 i))] ∧ h = [(0, some (.row .lent 2 RngX.ds l)), (16, some (.row .lent 2 RngX.ds m))],
    l.length, [(0, 0), (16, 16)], [(0, .sl 0 none), (1, .sl 16 none), (5, .lf (.int .i64 0))], [(0, some (.row .lent 2 RngX.ds l)), (16, some (.row .lent 2 RngX.ds m))], ⟨rfl, ⟨rfl, rfl, rfl, trivial⟩, ⟨rfl, rfl, trivial⟩⟩, ⟨0, by omega, fun j h => by omega, by omega, rfl, rfl⟩, ?_⟩
  rintro k _ _ ⟨i, g1, g2, rfl, rfl, rfl⟩
  conv => whnf
  intro h4
  conv => whnf
  refine br2 (fun h5 => ?_) (fun h5 => ?_)
  · have hi : i < l.length := by have := of_decide_eq_true h5; omega
    obtain ⟨y, hy⟩ : ∃ y, l[i]? = some y := ⟨_, List.getElem?_eq_getElem hi⟩
    have hy2 : nth l ((i : Nat) : Int).toNat = some y := by rw [nth_eq, Int.toNat_natCast]; exact hy
    obtain ⟨z, hz⟩ : ∃ z, m[i]? = some z := ⟨_, List.getElem?_eq_getElem (by omega)⟩
    have hz2 : nth m ((i : Nat) : Int).toNat = some z := by rw [nth_eq, Int.toNat_natCast]; exact hz
    conv => whnf
    refine ⟨Int.natCast_nonneg _, (show (i : Int) < (l.length : Int) by omega), ?_⟩
    conv => whnf
    refine ex2 y hy2 ?_
    conv => whnf
    refine ⟨Int.natCast_nonneg _, (show (i : Int) < (m.length : Int) by omega), ?_⟩
    conv => whnf
    refine ex2 z hz2 ?_
    conv => whnf
    refine ⟨(y, z), rfl, ?_⟩
    rintro _ _ ⟨rfl, rfl⟩
    conv => whnf
    refine br2 (fun h6 => ?_) (fun h6 => ?_)
    · replace h6 : (!eqX y z) = true := h6
      rw [Bool.not_eq_true', eqX_no] at h6
      conv => whnf
      refine ⟨⟨rfl, ?_⟩⟩
      show _ = [[D.lf (.bool (eqX l m))]]
      have : l ≠ m := by rintro rfl; rw [hy] at hz; cases hz; exact h6 rfl
      rw [eqX_no.2 this]
    · replace h6 : (!eqX y z) = false := h6
      rw [Bool.not_eq_false', eqX_iff] at h6
      conv => whnf
      refine ⟨l.length - (i + 1), [(0, 0), (16, 16)], [(0, .sl 0 none), (1, .sl 16 none), (5, .lf (.int .i64 ((i + 1 : Nat) : Int)))], [(0, some (.row .lent 2 RngX.ds l)), (16, some (.row .lent 2 RngX.ds m))], by omega, ⟨rfl, ⟨rfl, rfl, ?_, trivial⟩, ⟨rfl, rfl, trivial⟩⟩, i + 1, by omega, fun j hj => ?_, rfl, rfl, rfl⟩
      · show V.lf (.int .i64 (IntKind.i64.wrap ((i : Int) + 1))) = _
        replace h4 : l.length ≤ 9223372036854775807 := h4
        rw [w64 (by omega) (by omega)]; rfl
      · rcases Nat.lt_or_ge j i with h7 | h7
        · exact g2 j h7
        · obtain rfl : j = i := by omega
          rw [hy, hz, h6]
  · have hi : i = l.length := by have := of_decide_eq_false h5; omega
    conv => whnf
    refine ⟨⟨rfl, ?_⟩⟩
    show _ = [[D.lf (.bool (eqX l m))]]
    have : l = m := by
      apply List.ext_getElem?
      intro j
      rcases Nat.lt_or_ge j l.length with h | h
      · exact g2 j (by omega)
      · rw [List.getElem?_eq_none h, List.getElem?_eq_none (by omega)]
    rw [eqX_iff.2 this]
theorem eqPairS_ok : FnOk Try.prog 113 (cEqS 2 RngX.ds) := fnOk_of fun x => fn_at tab_ok (SOk.cons eqPair_ok SOk.nil) mixed (fn := Try.f113) (code := body Try.f113) ⟨Try.func113, rfl, by kernel_rfl, by kernel_rfl, by kernel_rfl, by kernel_rfl⟩ (ev_eqPairS x)

/-! Held and waiting locks -/
structure LocksX where
  held : List LockX
  wait : List LockX
def LocksX.ds (x : LocksX) : List D := [.row 6 LockX.ds x.held, .row 6 LockX.ds x.wait]
def locksB0 (x : LocksX) : Prop := (x.held.length ≤ 9223372036854775807 ∧ ∀ y ∈ x.held, lockB0 y) ∧ (x.wait.length ≤ 9223372036854775807 ∧ ∀ y ∈ x.wait, lockB0 y)
def locksB (x : LocksX) : Prop := x.held.length + x.wait.length ≤ 1048576 ∧ (∀ y ∈ x.held, lockB y) ∧ ∀ y ∈ x.wait, lockB y
theorem ev_szLocks : ∀ x, evFn tab [(81, (cSzS 6 LockX.ds lockB0 lockB))] (cSz LocksX.ds locksB0 locksB) Try.f27 (body Try.f27) x := by
  rintro ⟨⟨l, m⟩, left, h1, h2, hb1, hb2⟩
  conv => whnf
  refine ⟨⟨l, left, h1, h2, hb1⟩, rfl, ?_⟩
  rintro _ _ ⟨rfl, k, rfl, k1, k2, k3⟩
  replace k2 : k ≤ left := k2
  conv => whnf
  refine br2 (fun h3 => ?_) (fun h3 => ?_)
  · conv => whnf
    exact ⟨⟨rfl, -1, rfl, by omega, (show (-1 : Int) ≤ left by omega), fun h => by omega⟩⟩
  · have h3' := of_decide_eq_false h3
    obtain ⟨k4, k5⟩ := k3 (by omega)
    replace k4 : (l.length : Int) + k ≤ left := k4
    conv => whnf
    refine ⟨⟨m, k, by omega, by omega, hb2⟩, rfl, ?_⟩
    rintro _ _ ⟨rfl, k', rfl, j1, j2, j3⟩
    replace j2 : k' ≤ k := j2
    conv => whnf
    refine br2 (fun h4 => ?_) (fun h4 => ?_)
    · conv => whnf
      exact ⟨⟨rfl, -1, rfl, by omega, (show (-1 : Int) ≤ left by omega), fun h => by omega⟩⟩
    · have h4' := of_decide_eq_false h4
      obtain ⟨j4, j5⟩ := j3 (by omega)
      replace j4 : (m.length : Int) + k' ≤ k := j4
      conv => whnf
      exact ⟨⟨rfl, k', rfl, by omega, (show k' ≤ left by omega), fun _ => (⟨by omega, k5, j5⟩ : l.length + m.length ≤ 1048576 ∧ (∀ y ∈ l, lockB y) ∧ ∀ y ∈ m, lockB y)⟩⟩
theorem szLocks_ok : FnOk Try.prog 27 (cSz LocksX.ds locksB0 locksB) := fnOk_of fun x => fn_at tab_ok (SOk.cons szLockS_ok SOk.nil) mixed (fn := Try.f27) (code := body Try.f27) ⟨Try.func27, rfl, by kernel_rfl, by kernel_rfl, by kernel_rfl, by kernel_rfl⟩ (ev_szLocks x)
structure LocksY where
  x : LocksX
  h1 : x.held.length ≤ 1048576
  h2 : x.wait.length ≤ 1048576
def cToLocks : Con := pureC LocksY [(.rd, true)] [true] (fun x => [x.x.ds]) (fun x => [x.x.ds])
theorem ev_toLocks : ∀ x, evFn tab [(85, (cCopyS 6 LockX.ds))] cToLocks Try.f29 (body Try.f29) x := by
  rintro ⟨⟨l, m⟩, h1, h2⟩
  conv => whnf
  refine ⟨⟨l, h1⟩, rfl, ?_⟩
  rintro _ _ ⟨rfl, rfl⟩
  conv => whnf
  refine ⟨⟨m, h2⟩, rfl, ?_⟩
  rintro _ _ ⟨rfl, rfl⟩
  conv => whnf
  exact ⟨⟨rfl, rfl⟩⟩
theorem toLocks_ok : FnOk Try.prog 29 cToLocks := fnOk_of fun x => fn_at tab_ok (SOk.cons toLockS_ok SOk.nil) mixed (fn := Try.f29) (code := body Try.f29) ⟨Try.func29, rfl, by kernel_rfl, by kernel_rfl, by kernel_rfl, by kernel_rfl⟩ (ev_toLocks x)
theorem ev_eqLocks : ∀ x, evFn tab [(55, (cEqS 6 LockX.ds))] (cEq LocksX.ds) Try.f31 (body Try.f31) x := by
  rintro ⟨⟨a, b⟩, ⟨c, d⟩⟩
  repeat' ((conv => whnf); first | refine br2 (fun h => ?_) (fun h => ?_) | (refine ⟨(a, c), rfl, ?_⟩; rintro _ _ ⟨rfl, rfl⟩) | (refine ⟨(b, d), rfl, ?_⟩; rintro _ _ ⟨rfl, rfl⟩))
  all_goals (conv => whnf)
  all_goals refine ⟨⟨rfl, ?_⟩⟩
  all_goals show _ = [[D.lf (.bool (eqX (⟨a, b⟩ : LocksX) ⟨c, d⟩))]]
  all_goals congr 4
  all_goals rw [eq_comm]
  all_goals simp_all [eqX_iff, eqX_no]
theorem eqLocks_ok : FnOk Try.prog 31 (cEq LocksX.ds) := fnOk_of fun x => fn_at tab_ok (SOk.cons eqLockS_ok SOk.nil) mixed (fn := Try.f31) (code := body Try.f31) ⟨Try.func31, rfl, by kernel_rfl, by kernel_rfl, by kernel_rfl, by kernel_rfl⟩ (ev_eqLocks x)
end Go.Vm
namespace Go.Vm
open Go.Proofs
set_option maxRecDepth 100000
set_option linter.unusedVariables false
set_option linter.unusedSimpArgs false

def txOkB (x : TxX) : Bool := decide (0 ≤ x.c) && decide (x.c ≤ 7) && decide (1 ≤ x.e) && decide (x.e ≤ 999) && decide (1 ≤ x.n) && decide (x.n ≤ 999)
def cTxOk : Con := pureC TxX [(.rd, true)] [false] (fun x => [x.ds]) (fun x => [[.lf (.bool (txOkB x))]])
theorem ev_sTxOk : ∀ x, evFnX tab [] cTxOk Try.f69 (body Try.f69) x := by
  rintro ⟨c, e, n⟩
  repeat' ((conv => whnf); refine br2 (fun h => ?_) (fun h => ?_))
  all_goals (conv => whnf)
  all_goals refine ⟨⟨rfl, ?_⟩⟩
  all_goals show _ = [[D.lf (.bool (txOkB ⟨c, e, n⟩))]]
  all_goals simp_all [txOkB]
  all_goals omega
theorem sTxOk_ok : FnOk Try.prog 69 cTxOk := fnOk_of fun x => fnX_at tab_ok (SOk.nil) mixed (fn := Try.f69) (code := body Try.f69) ⟨Try.func69, rfl, by kernel_rfl, by kernel_rfl, by kernel_rfl, by kernel_rfl⟩ (ev_sTxOk x)
theorem ev_iTxOk : ∀ x, evFnX tab [(93, cWithin)] cTxOk Try.f71 (body Try.f71) x := by
  rintro ⟨c, e, n⟩
  conv => whnf
  refine ⟨⟨c, 0, 7⟩, rfl, ?_⟩
  rintro _ _ ⟨rfl, rfl⟩
  conv => whnf
  refine br2 (fun h1 => ?_) (fun h1 => ?_)
  · conv => whnf
    refine ⟨⟨e, 1, 999⟩, rfl, ?_⟩
    rintro _ _ ⟨rfl, rfl⟩
    conv => whnf
    refine br2 (fun h2 => ?_) (fun h2 => ?_)
    · conv => whnf
      refine ⟨⟨n, 1, 999⟩, rfl, ?_⟩
      rintro _ _ ⟨rfl, rfl⟩
      conv => whnf
      refine ⟨⟨rfl, ?_⟩⟩
      show [[D.lf (.bool (decide (1 ≤ n) && decide (n ≤ 999)))]] = [[D.lf (.bool (txOkB ⟨c, e, n⟩))]]
      replace h1 : (decide (0 ≤ c) && decide (c ≤ 7)) = true := h1
      replace h2 : (decide (1 ≤ e) && decide (e ≤ 999)) = true := h2
      simp_all [txOkB]
    · conv => whnf
      refine ⟨⟨rfl, ?_⟩⟩
      show _ = [[D.lf (.bool (txOkB ⟨c, e, n⟩))]]
      replace h2 : (decide (1 ≤ e) && decide (e ≤ 999)) = false := h2
      simp [txOkB, Bool.and_assoc] at h2 ⊢
      intros; omega
  · conv => whnf
    refine ⟨⟨rfl, ?_⟩⟩
    show _ = [[D.lf (.bool (txOkB ⟨c, e, n⟩))]]
    replace h1 : (decide (0 ≤ c) && decide (c ≤ 7)) = false := h1
    simp [txOkB, Bool.and_assoc] at h1 ⊢
    intros; omega
theorem iTxOk_ok : FnOk Try.prog 71 cTxOk := fnOk_of fun x => fnX_at tab_ok (SOk.cons within_ok SOk.nil) mixed (fn := Try.f71) (code := body Try.f71) ⟨Try.func71, rfl, by kernel_rfl, by kernel_rfl, by kernel_rfl, by kernel_rfl⟩ (ev_iTxOk x)

/-! What two ranges have in common -/
def bothLo (a b : RngX) : ByteArray := if strLt a.lo b.lo then b.lo else a.lo
def bothHi (a b : RngX) : ByteArray := if emp a.hi || (!emp b.hi && strLt b.hi a.hi) then b.hi else a.hi
def bothB (a b : RngX) : Bool := rangeOkB a.lo a.hi && rangeOkB b.lo b.hi && rangeOkB (bothLo a b) (bothHi a b)
def bothR (a b : RngX) : RngX := if bothB a b then ⟨bothLo a b, bothHi a b⟩ else rng0
def cBoth : Con := pureC (RngX × RngX) [(.rd, true), (.rd, true)] [true, false] (fun x => [x.1.ds, x.2.ds]) (fun x => [(bothR x.1 x.2).ds, [.lf (.bool (bothB x.1 x.2))]])
theorem ev_sRangeBoth : ∀ x, evFnX tab [(65, cRangeOk)] cBoth Try.f16 (body Try.f16) x := by
  rintro ⟨⟨a, b⟩, ⟨c, d⟩⟩
  have key : ∀ (lo hi : ByteArray), lo = bothLo ⟨a, b⟩ ⟨c, d⟩ → hi = bothHi ⟨a, b⟩ ⟨c, d⟩ → rangeOkB a b = true → rangeOkB c d = true →
      (rangeOkB lo hi = true → [[D.lf (.string lo), D.lf (.string hi)], [D.lf (.bool true)]] = [(bothR ⟨a, b⟩ ⟨c, d⟩).ds, [D.lf (.bool (bothB ⟨a, b⟩ ⟨c, d⟩))]]) ∧
      (rangeOkB lo hi = false → [[D.lf (.string ⟨#[]⟩), D.lf (.string ⟨#[]⟩)], [D.lf (.bool false)]] = [(bothR ⟨a, b⟩ ⟨c, d⟩).ds, [D.lf (.bool (bothB ⟨a, b⟩ ⟨c, d⟩))]]) := by
    rintro _ _ rfl rfl h1 h2
    exact ⟨fun h => by simp [bothR, bothB, h1, h2, h, RngX.ds], fun h => by simp [bothR, bothB, h1, h2, h, RngX.ds, rng0]⟩
  conv => whnf
  refine ⟨(a, b), rfl, ?_⟩
  rintro _ _ ⟨rfl, rfl⟩
  conv => whnf
  refine br2 (fun h1 => ?_) (fun h1 => ?_)
  · conv => whnf
    refine ⟨⟨rfl, ?_⟩⟩
    replace h1 : (!rangeOkB a b) = true := h1
    show _ = [(bothR ⟨a, b⟩ ⟨c, d⟩).ds, [D.lf (.bool (bothB ⟨a, b⟩ ⟨c, d⟩))]]
    rw [Bool.not_eq_true'] at h1
    simp [bothR, bothB, h1, RngX.ds, rng0]
  replace h1 : (!rangeOkB a b) = false := h1
  rw [Bool.not_eq_false'] at h1
  conv => whnf
  refine ⟨(c, d), rfl, ?_⟩
  rintro _ _ ⟨rfl, rfl⟩
  conv => whnf
  refine br2 (fun h2 => ?_) (fun h2 => ?_)
  · conv => whnf
    refine ⟨⟨rfl, ?_⟩⟩
    replace h2 : (!rangeOkB c d) = true := h2
    show _ = [(bothR ⟨a, b⟩ ⟨c, d⟩).ds, [D.lf (.bool (bothB ⟨a, b⟩ ⟨c, d⟩))]]
    rw [Bool.not_eq_true'] at h2
    simp [bothR, bothB, h2, RngX.ds, rng0]
  replace h2 : (!rangeOkB c d) = false := h2
  rw [Bool.not_eq_false'] at h2
  have fin : ∀ (lo hi : ByteArray), lo = bothLo ⟨a, b⟩ ⟨c, d⟩ → hi = bothHi ⟨a, b⟩ ⟨c, d⟩ → True := fun _ _ _ _ => trivial
  have elo : ∀ t, (!(strLt c a || strEq c a)) = t → (if t then c else a) = bothLo ⟨a, b⟩ ⟨c, d⟩ := by
    rintro t rfl
    unfold bothLo
    rw [strLt_gtr]
  have ehi : ∀ t u w, emp b = t → (!emp d) = u → strLt d b = w → (if t || (u && w) then d else b) = bothHi ⟨a, b⟩ ⟨c, d⟩ := by rintro _ _ _ rfl rfl rfl; rfl
  conv => whnf
  refine br2 (fun h3 => ?_) (fun h3 => ?_)
  all_goals
    have e1 := elo _ h3
    conv => whnf
    refine br2 (fun h4 => ?_) (fun h4 => ?_)
    · have e2 : d = bothHi ⟨a, b⟩ ⟨c, d⟩ := by have := ehi _ _ _ h4 rfl rfl; simpa using this
      conv => whnf
      refine ⟨(_, d), rfl, ?_⟩
      rintro _ _ ⟨rfl, rfl⟩
      conv => whnf
      refine br2 (fun h5 => ?_) (fun h5 => ?_)
      · conv => whnf
        exact ⟨⟨rfl, (key _ _ (by simpa using e1) e2 h1 h2).2 (by simpa using h5)⟩⟩
      · conv => whnf
        exact ⟨⟨rfl, (key _ _ (by simpa using e1) e2 h1 h2).1 (by simpa using h5)⟩⟩
    · conv => whnf
      refine br2 (fun h5 => ?_) (fun h5 => ?_)
      · conv => whnf
        refine br2 (fun h6 => ?_) (fun h6 => ?_)
        · have e2 : d = bothHi ⟨a, b⟩ ⟨c, d⟩ := by have := ehi _ _ _ h4 h5 h6; simpa using this
          conv => whnf
          refine ⟨(_, d), rfl, ?_⟩
          rintro _ _ ⟨rfl, rfl⟩
          conv => whnf
          refine br2 (fun h5 => ?_) (fun h5 => ?_)
          · conv => whnf
            exact ⟨⟨rfl, (key _ _ (by simpa using e1) e2 h1 h2).2 (by simpa using h5)⟩⟩
          · conv => whnf
            exact ⟨⟨rfl, (key _ _ (by simpa using e1) e2 h1 h2).1 (by simpa using h5)⟩⟩
        · have e2 : b = bothHi ⟨a, b⟩ ⟨c, d⟩ := by have := ehi _ _ _ h4 h5 h6; simpa using this
          conv => whnf
          refine ⟨(_, b), rfl, ?_⟩
          rintro _ _ ⟨rfl, rfl⟩
          conv => whnf
          refine br2 (fun h5 => ?_) (fun h5 => ?_)
          · conv => whnf
            exact ⟨⟨rfl, (key _ _ (by simpa using e1) e2 h1 h2).2 (by simpa using h5)⟩⟩
          · conv => whnf
            exact ⟨⟨rfl, (key _ _ (by simpa using e1) e2 h1 h2).1 (by simpa using h5)⟩⟩
      · have e2 : b = bothHi ⟨a, b⟩ ⟨c, d⟩ := by have := ehi _ _ _ h4 h5 rfl; simpa using this
        conv => whnf
        refine ⟨(_, b), rfl, ?_⟩
        rintro _ _ ⟨rfl, rfl⟩
        conv => whnf
        refine br2 (fun h5 => ?_) (fun h5 => ?_)
        · conv => whnf
          exact ⟨⟨rfl, (key _ _ (by simpa using e1) e2 h1 h2).2 (by simpa using h5)⟩⟩
        · conv => whnf
          exact ⟨⟨rfl, (key _ _ (by simpa using e1) e2 h1 h2).1 (by simpa using h5)⟩⟩
theorem sRangeBoth_ok : FnOk Try.prog 16 cBoth := fnOk_of fun x => fnX_at tab_ok (SOk.cons sRangeOk_ok SOk.nil) mixed (fn := Try.f16) (code := body Try.f16) ⟨Try.func16, rfl, by kernel_rfl, by kernel_rfl, by kernel_rfl, by kernel_rfl⟩ (ev_sRangeBoth x)
theorem nt_t {b : Bool} (h : (!b) = true) : b = false := by cases b <;> simp_all
theorem nt_f {b : Bool} (h : (!b) = false) : b = true := by cases b <;> simp_all
theorem ev_iRangeBoth : ∀ x, evFnX tab [(64, cRangeOk)] cBoth Try.f15 (body Try.f15) x := by
  rintro ⟨⟨a, b⟩, ⟨c, d⟩⟩
  have key : ∀ (lo hi : ByteArray), lo = bothLo ⟨a, b⟩ ⟨c, d⟩ → hi = bothHi ⟨a, b⟩ ⟨c, d⟩ → rangeOkB a b = true → rangeOkB c d = true →
      (rangeOkB lo hi = true → [[D.lf (.string lo), D.lf (.string hi)], [D.lf (.bool true)]] = [(bothR ⟨a, b⟩ ⟨c, d⟩).ds, [D.lf (.bool (bothB ⟨a, b⟩ ⟨c, d⟩))]]) ∧
      (rangeOkB lo hi = false → [[D.lf (.string ⟨#[]⟩), D.lf (.string ⟨#[]⟩)], [D.lf (.bool false)]] = [(bothR ⟨a, b⟩ ⟨c, d⟩).ds, [D.lf (.bool (bothB ⟨a, b⟩ ⟨c, d⟩))]]) := by
    rintro _ _ rfl rfl h1 h2
    exact ⟨fun h => by simp [bothR, bothB, h1, h2, h, RngX.ds], fun h => by simp [bothR, bothB, h1, h2, h, RngX.ds, rng0]⟩
  have ehi : ∀ t u w, emp b = t → (!emp d) = u → strLt d b = w → (if t || (u && w) then d else b) = bothHi ⟨a, b⟩ ⟨c, d⟩ := by rintro _ _ _ rfl rfl rfl; rfl
  conv => whnf
  refine ⟨(a, b), rfl, ?_⟩
  rintro _ _ ⟨rfl, rfl⟩
  conv => whnf
  refine br2 (fun h1 => ?_) (fun h1 => ?_)
  · conv => whnf
    refine ⟨⟨rfl, ?_⟩⟩
    replace h1 : (!rangeOkB a b) = true := h1
    show _ = [(bothR ⟨a, b⟩ ⟨c, d⟩).ds, [D.lf (.bool (bothB ⟨a, b⟩ ⟨c, d⟩))]]
    rw [Bool.not_eq_true'] at h1
    simp [bothR, bothB, h1, RngX.ds, rng0]
  replace h1 : (!rangeOkB a b) = false := h1
  rw [Bool.not_eq_false'] at h1
  conv => whnf
  refine ⟨(c, d), rfl, ?_⟩
  rintro _ _ ⟨rfl, rfl⟩
  conv => whnf
  refine br2 (fun h2 => ?_) (fun h2 => ?_)
  · conv => whnf
    refine ⟨⟨rfl, ?_⟩⟩
    replace h2 : (!rangeOkB c d) = true := h2
    show _ = [(bothR ⟨a, b⟩ ⟨c, d⟩).ds, [D.lf (.bool (bothB ⟨a, b⟩ ⟨c, d⟩))]]
    rw [Bool.not_eq_true'] at h2
    simp [bothR, bothB, h2, RngX.ds, rng0]
  replace h2 : (!rangeOkB c d) = false := h2
  rw [Bool.not_eq_false'] at h2
  conv => whnf
  refine br2 (fun h4 => ?_) (fun h4 => ?_)
  · have e2 : d = bothHi ⟨a, b⟩ ⟨c, d⟩ := by have := ehi _ _ _ h4 rfl rfl; simpa using this
    conv => whnf
    refine ⟨(_, d), rfl, ?_⟩
    rintro _ _ ⟨rfl, rfl⟩
    conv => whnf
    refine br2 (fun h5 => ?_) (fun h5 => ?_)
    · conv => whnf
      exact ⟨⟨rfl, (key _ _ rfl e2 h1 h2).2 (nt_t h5)⟩⟩
    · conv => whnf
      exact ⟨⟨rfl, (key _ _ rfl e2 h1 h2).1 (nt_f h5)⟩⟩
  · conv => whnf
    refine br2 (fun h5 => ?_) (fun h5 => ?_)
    · conv => whnf
      refine br2 (fun h6 => ?_) (fun h6 => ?_)
      · have e2 : d = bothHi ⟨a, b⟩ ⟨c, d⟩ := by have := ehi _ _ _ h4 h5 h6; simpa using this
        conv => whnf
        refine ⟨(_, d), rfl, ?_⟩
        rintro _ _ ⟨rfl, rfl⟩
        conv => whnf
        refine br2 (fun h5 => ?_) (fun h5 => ?_)
        · conv => whnf
          exact ⟨⟨rfl, (key _ _ rfl e2 h1 h2).2 (nt_t h5)⟩⟩
        · conv => whnf
          exact ⟨⟨rfl, (key _ _ rfl e2 h1 h2).1 (nt_f h5)⟩⟩
      · have e2 : b = bothHi ⟨a, b⟩ ⟨c, d⟩ := by have := ehi _ _ _ h4 h5 h6; simpa using this
        conv => whnf
        refine ⟨(_, b), rfl, ?_⟩
        rintro _ _ ⟨rfl, rfl⟩
        conv => whnf
        refine br2 (fun h5 => ?_) (fun h5 => ?_)
        · conv => whnf
          exact ⟨⟨rfl, (key _ _ rfl e2 h1 h2).2 (nt_t h5)⟩⟩
        · conv => whnf
          exact ⟨⟨rfl, (key _ _ rfl e2 h1 h2).1 (nt_f h5)⟩⟩
    · have e2 : b = bothHi ⟨a, b⟩ ⟨c, d⟩ := by have := ehi _ _ _ h4 h5 rfl; simpa using this
      conv => whnf
      refine ⟨(_, b), rfl, ?_⟩
      rintro _ _ ⟨rfl, rfl⟩
      conv => whnf
      refine br2 (fun h5 => ?_) (fun h5 => ?_)
      · conv => whnf
        exact ⟨⟨rfl, (key _ _ rfl e2 h1 h2).2 (nt_t h5)⟩⟩
      · conv => whnf
        exact ⟨⟨rfl, (key _ _ rfl e2 h1 h2).1 (nt_f h5)⟩⟩
theorem iRangeBoth_ok : FnOk Try.prog 15 cBoth := fnOk_of fun x => fnX_at tab_ok (SOk.cons iRangeOk_ok SOk.nil) mixed (fn := Try.f15) (code := body Try.f15) ⟨Try.func15, rfl, by kernel_rfl, by kernel_rfl, by kernel_rfl, by kernel_rfl⟩ (ev_iRangeBoth x)
theorem any_at {α : Type} {p : α → Bool} {l : List α} {i : Nat} {y : α} (hy : l[i]? = some y) (h : p y = true) : l.any p = true := List.any_eq_true.2 ⟨y, List.mem_of_getElem? hy, h⟩
theorem any_no {α : Type} {p : α → Bool} {l : List α} (h : ∀ j y, j < l.length → l[j]? = some y → p y = false) : l.any p = false := by
  rw [List.any_eq_false]
  intro y hy
  obtain ⟨j, hj⟩ := List.getElem?_of_mem hy
  rw [h j y (List.getElem?_eq_some_iff.1 hj).1 hj]; simp
end Go.Vm
namespace Go.Vm
open Go.Proofs
set_option maxRecDepth 100000
set_option linter.unusedVariables false
set_option linter.unusedSimpArgs false

structure AskX where
  k : Int
  u : ByteArray
  v : ByteArray
  r : RngX
  n : Int
  b : Bool
def AskX.ds (x : AskX) : List D := [.lf (.int .i64 x.k), .lf (.string x.u), .lf (.string x.v), .lf (.string x.r.lo), .lf (.string x.r.hi), .lf (.int .i64 x.n), .lf (.bool x.b)]
def askB0 (x : AskX) : Prop := x.u.size ≤ 9223372036854775807 ∧ x.v.size ≤ 9223372036854775807 ∧ rngB0 x.r
def askOkB (x : AskX) : Bool :=
  if x.k = 4 then emp x.u && emp x.v && reachOkB x.r.lo x.r.hi && decide (1 ≤ x.n) && decide (x.n ≤ 8)
  else if x.k = 1 ∨ x.k = 3 then userOkB x.u && emp x.v && emp x.r.lo && emp x.r.hi && x.n == 0 && !x.b
  else if x.k = 2 then userOkB x.u && uvalOkB x.v && emp x.r.lo && emp x.r.hi && x.n == 0 && !x.b
  else false
theorem uval_emp : uvalOkB ⟨#[]⟩ = true := rfl
theorem ev_szAsk : ∀ x, evFnX tab [(40, (cSz RngX.ds rngB0 rngB))] (cSz AskX.ds askB0 (fun _ => True)) Try.f102 (body Try.f102) x := by
  rintro ⟨⟨k, u, v, r, n, b⟩, left, h1, h2, hb1, hb2, hb3⟩
  replace hb1 : u.size ≤ 9223372036854775807 := hb1
  replace hb2 : v.size ≤ 9223372036854775807 := hb2
  conv => whnf
  have e1 : IntKind.i64.wrap (left - (u.size : Int)) = left - u.size := w64 (by omega) (by omega)
  refine br2 (fun h3 => ?_) (fun h3 => ?_)
  · conv => whnf
    exact ⟨⟨rfl, -1, rfl, by omega, (show (-1 : Int) ≤ left by omega), fun h => by omega⟩⟩
  · replace h3 : decide (IntKind.i64.wrap (left - (u.size : Int)) < 0) = false := h3
    rw [e1] at h3
    have h3' := of_decide_eq_false h3
    conv => whnf
    have e2 : IntKind.i64.wrap (IntKind.i64.wrap (left - (u.size : Int)) - (v.size : Int)) = left - u.size - v.size := by rw [e1]; exact w64 (by omega) (by omega)
    refine br2 (fun h4 => ?_) (fun h4 => ?_)
    · conv => whnf
      exact ⟨⟨rfl, -1, rfl, by omega, (show (-1 : Int) ≤ left by omega), fun h => by omega⟩⟩
    · replace h4 : decide (IntKind.i64.wrap (IntKind.i64.wrap (left - (u.size : Int)) - (v.size : Int)) < 0) = false := h4
      rw [e2] at h4
      have h4' := of_decide_eq_false h4
      conv => whnf
      refine ⟨⟨r, IntKind.i64.wrap (IntKind.i64.wrap (left - (u.size : Int)) - (v.size : Int)), by rw [e2]; omega, by rw [e2]; omega, hb3⟩, rfl, ?_⟩
      rintro _ _ ⟨rfl, k, rfl, k1, k2, k3⟩
      replace k2 : k ≤ IntKind.i64.wrap (IntKind.i64.wrap (left - (u.size : Int)) - (v.size : Int)) := k2
      rw [e2] at k2
      conv => whnf
      refine br2 (fun h5 => ?_) (fun h5 => ?_)
      · conv => whnf
        exact ⟨⟨rfl, -1, rfl, by omega, (show (-1 : Int) ≤ left by omega), fun h => by omega⟩⟩
      · conv => whnf
        exact ⟨⟨rfl, k, rfl, k1, (show k ≤ left by omega), fun _ => trivial⟩⟩
theorem szAsk_ok : FnOk Try.prog 102 (cSz AskX.ds askB0 (fun _ => True)) := fnOk_of fun x => fnX_at tab_ok (SOk.cons szRange_ok SOk.nil) mixed (fn := Try.f102) (code := body Try.f102) ⟨Try.func102, rfl, by kernel_rfl, by kernel_rfl, by kernel_rfl, by kernel_rfl⟩ (ev_szAsk x)
theorem ev_toAsk : ∀ x, evFnX tab [(43, (cCopy RngX.ds))] (cCopy AskX.ds) Try.f107 (body Try.f107) x := by
  intro x
  conv => whnf
  refine ⟨x.r, rfl, ?_⟩
  rintro _ _ ⟨rfl, rfl⟩
  conv => whnf
  exact ⟨⟨rfl, rfl⟩⟩
theorem toAsk_ok : FnOk Try.prog 107 (cCopy AskX.ds) := fnOk_of fun x => fnX_at tab_ok (SOk.cons toRange_ok SOk.nil) mixed (fn := Try.f107) (code := body Try.f107) ⟨Try.func107, rfl, by kernel_rfl, by kernel_rfl, by kernel_rfl, by kernel_rfl⟩ (ev_toAsk x)
theorem ev_eqAsk : ∀ x, evFnX tab [(80, cEqRange)] (cEq AskX.ds) Try.f112 (body Try.f112) x := by
  rintro ⟨⟨k, u, v, ⟨a, b⟩, n, t⟩, ⟨k', u', v', ⟨a', b'⟩, n', t'⟩⟩
  repeat' ((conv => whnf); first | refine br2 (fun h => ?_) (fun h => ?_) | (refine ⟨⟨a, b, a', b'⟩, rfl, ?_⟩; rintro _ _ ⟨rfl, rfl⟩))
  all_goals (conv => whnf)
  all_goals refine ⟨⟨rfl, ?_⟩⟩
  all_goals show _ = [[D.lf (.bool (eqX (⟨k, u, v, ⟨a, b⟩, n, t⟩ : AskX) ⟨k', u', v', ⟨a', b'⟩, n', t'⟩))]]
  all_goals congr 4
  all_goals rw [eq_comm]
  all_goals simp_all [eqX_iff, eqX_no, strEq_iff, strEq_no]
  exact fun e1 e2 => h.elim (fun h => absurd e1 h) (fun h => absurd e2 h)
theorem eqAsk_ok : FnOk Try.prog 112 (cEq AskX.ds) := fnOk_of fun x => fnX_at tab_ok (SOk.cons eqRange_ok SOk.nil) mixed (fn := Try.f112) (code := body Try.f112) ⟨Try.func112, rfl, by kernel_rfl, by kernel_rfl, by kernel_rfl, by kernel_rfl⟩ (ev_eqAsk x)
theorem askOk_iff {k n : Int} {u v a b : ByteArray} {t : Bool} : askOkB ⟨k, u, v, ⟨a, b⟩, n, t⟩ = true ↔ (k = 4 ∧ u = ⟨#[]⟩ ∧ v = ⟨#[]⟩ ∧ reachOkB a b = true ∧ 1 ≤ n ∧ n ≤ 8) ∨
    ((k = 1 ∨ k = 3) ∧ userOkB u = true ∧ v = ⟨#[]⟩ ∧ a = ⟨#[]⟩ ∧ b = ⟨#[]⟩ ∧ n = 0 ∧ t = false) ∨ (k = 2 ∧ userOkB u = true ∧ uvalOkB v = true ∧ a = ⟨#[]⟩ ∧ b = ⟨#[]⟩ ∧ n = 0 ∧ t = false) := by
  unfold askOkB
  by_cases h4 : k = 4
  · subst h4; simp [emp_iff, and_assoc]
  · by_cases h1 : k = 1 ∨ k = 3
    · have : k ≠ 2 := by omega
      simp [h4, h1, this, emp_iff, and_assoc]
    · by_cases h2 : k = 2
      · subst h2; simp [emp_iff, and_assoc]
      · simp [h4, h1, h2]
def cAskOk : Con := pureC AskX [(.rd, true)] [false] (fun x => [x.ds]) (fun x => [[.lf (.bool (askOkB x))]])
theorem ev_sAskOk : ∀ x, evFnX tab [(101, cReachOk), (99, cUserOk), (100, cUvalOk)] cAskOk Try.f105 (body Try.f105) x := by
  rintro ⟨k, u, v, ⟨a, b⟩, n, t⟩
  repeat' ((conv => whnf); first | refine br2 (fun h => ?_) (fun h => ?_) | (refine ⟨(a, b), rfl, ?_⟩; rintro _ _ ⟨rfl, rfl⟩) | (refine ⟨u, rfl, ?_⟩; rintro _ _ ⟨rfl, rfl⟩) | (refine ⟨v, rfl, ?_⟩; rintro _ _ ⟨rfl, rfl⟩))
  all_goals (conv => whnf)
  all_goals refine ⟨⟨rfl, ?_⟩⟩
  all_goals show _ = [[D.lf (.bool (askOkB ⟨k, u, v, ⟨a, b⟩, n, t⟩))]]
  all_goals congr 4
  all_goals rw [b_iff, askOk_iff]
  all_goals simp_all [strEq_iff, strEq_no, uval_emp]
  all_goals try omega
theorem sAskOk_ok : FnOk Try.prog 105 cAskOk := fnOk_of fun x => fnX_at tab_ok (SOk.cons sReachOk_ok (SOk.cons sUserOk_ok (SOk.cons sUvalOk_ok SOk.nil))) mixed (fn := Try.f105) (code := body Try.f105) ⟨Try.func105, rfl, by kernel_rfl, by kernel_rfl, by kernel_rfl, by kernel_rfl⟩ (ev_sAskOk x)
theorem ev_iAskOk : ∀ x, evFnX tab [(128, cReachOk), (126, cUserOk), (127, cUvalOk), (93, cWithin)] cAskOk Try.f109 (body Try.f109) x := by
  rintro ⟨k, u, v, ⟨a, b⟩, n, t⟩
  repeat' ((conv => whnf); first | refine br2 (fun h => ?_) (fun h => ?_) | (refine ⟨(a, b), rfl, ?_⟩; rintro _ _ ⟨rfl, rfl⟩) | (refine ⟨u, rfl, ?_⟩; rintro _ _ ⟨rfl, rfl⟩) | (refine ⟨v, rfl, ?_⟩; rintro _ _ ⟨rfl, rfl⟩) | (refine ⟨⟨n, 1, 8⟩, rfl, ?_⟩; rintro _ _ ⟨rfl, rfl⟩))
  all_goals (conv => whnf)
  all_goals refine ⟨⟨rfl, ?_⟩⟩
  all_goals show _ = [[D.lf (.bool (askOkB ⟨k, u, v, ⟨a, b⟩, n, t⟩))]]
  all_goals congr 4
  all_goals rw [b_iff, askOk_iff]
  all_goals simp_all [strEq_iff, strEq_no, uval_emp]
  all_goals try omega
  all_goals trace_state
  all_goals sorry
theorem iAskOk_ok : FnOk Try.prog 109 cAskOk := fnOk_of fun x => fnX_at tab_ok (SOk.cons iReachOk_ok (SOk.cons iUserOk_ok (SOk.cons iUvalOk_ok (SOk.cons within_ok SOk.nil)))) mixed (fn := Try.f109) (code := body Try.f109) ⟨Try.func109, rfl, by kernel_rfl, by kernel_rfl, by kernel_rfl, by kernel_rfl⟩ (ev_iAskOk x)
end Go.Vm
namespace Go.Vm
open Go.Proofs
set_option maxRecDepth 100000
set_option linter.unusedVariables false
set_option linter.unusedSimpArgs false

structure MsgX where
  k : Int
  tx : TxX
  sh : Int
  num : Int
  st : Int
  ask : AskX
  code : Int
  ps : List RngX
  yes : Bool
def MsgX.ds (x : MsgX) : List D := [.lf (.int .i64 x.k), .lf (.int .i64 x.tx.c), .lf (.int .i64 x.tx.e), .lf (.int .i64 x.tx.n), .lf (.int .i64 x.sh), .lf (.int .i64 x.num), .lf (.int .i64 x.st),
  .lf (.int .i64 x.ask.k), .lf (.string x.ask.u), .lf (.string x.ask.v), .lf (.string x.ask.r.lo), .lf (.string x.ask.r.hi), .lf (.int .i64 x.ask.n), .lf (.bool x.ask.b),
  .lf (.int .i64 x.code), .row 2 RngX.ds x.ps, .lf (.bool x.yes)]
def msgB0 (x : MsgX) : Prop := askB0 x.ask ∧ (x.ps.length ≤ 9223372036854775807 ∧ ∀ y ∈ x.ps, rngB0 y)
def msgB (x : MsgX) : Prop := x.ps.length ≤ 1048576 ∧ ∀ y ∈ x.ps, rngB y
theorem ev_szMsg : ∀ x, evFnX tab [(102, (cSz AskX.ds askB0 (fun _ => True))), (103, (cSzS 2 RngX.ds rngB0 rngB))] (cSz MsgX.ds msgB0 msgB) Try.f48 (body Try.f48) x := by
  rintro ⟨x, left, h1, h2, hb1, hb2⟩
  conv => whnf
  refine ⟨⟨x.ask, left, h1, h2, hb1⟩, rfl, ?_⟩
  rintro _ _ ⟨rfl, k, rfl, k1, k2, k3⟩
  replace k2 : k ≤ left := k2
  conv => whnf
  refine br2 (fun h3 => ?_) (fun h3 => ?_)
  · conv => whnf
    exact ⟨⟨rfl, -1, rfl, by omega, (show (-1 : Int) ≤ left by omega), fun h => by omega⟩⟩
  have h3' := of_decide_eq_false h3
  conv => whnf
  refine ⟨⟨x.ps, k, by omega, by omega, hb2⟩, rfl, ?_⟩
  rintro _ _ ⟨rfl, j, rfl, j1, j2, j3⟩
  replace j2 : j ≤ k := j2
  conv => whnf
  refine br2 (fun h4 => ?_) (fun h4 => ?_)
  · conv => whnf
    exact ⟨⟨rfl, -1, rfl, by omega, (show (-1 : Int) ≤ left by omega), fun h => by omega⟩⟩
  have h4' := of_decide_eq_false h4
  obtain ⟨j4, j5⟩ := j3 (by omega)
  replace j4 : (x.ps.length : Int) + j ≤ k := j4
  conv => whnf
  exact ⟨⟨rfl, j, rfl, by omega, (show j ≤ left by omega), fun _ => (⟨by omega, j5⟩ : x.ps.length ≤ 1048576 ∧ ∀ y ∈ x.ps, rngB y)⟩⟩
theorem szMsg_ok : FnOk Try.prog 48 (cSz MsgX.ds msgB0 msgB) := fnOk_of fun x => fnX_at tab_ok (SOk.cons szAsk_ok (SOk.cons szPairS_ok SOk.nil)) mixed (fn := Try.f48) (code := body Try.f48) ⟨Try.func48, rfl, by kernel_rfl, by kernel_rfl, by kernel_rfl, by kernel_rfl⟩ (ev_szMsg x)
structure MsgY where
  x : MsgX
  h : x.ps.length ≤ 1048576
theorem ev_toMsg : ∀ x, evFnX tab [(42, (cCopy TxX.ds)), (107, (cCopy AskX.ds)), (108, (cCopyS 2 RngX.ds))] (pureC MsgY [(.rd, true)] [true] (fun x => [x.x.ds]) (fun x => [x.x.ds])) Try.f50 (body Try.f50) x := by
  rintro ⟨x, h⟩
  conv => whnf
  refine ⟨x.tx, rfl, ?_⟩
  rintro _ _ ⟨rfl, rfl⟩
  conv => whnf
  refine ⟨x.ask, rfl, ?_⟩
  rintro _ _ ⟨rfl, rfl⟩
  conv => whnf
  refine ⟨⟨x.ps, h⟩, rfl, ?_⟩
  rintro _ _ ⟨rfl, rfl⟩
  conv => whnf
  exact ⟨⟨rfl, rfl⟩⟩
theorem toMsg_ok : FnOk Try.prog 50 (pureC MsgY [(.rd, true)] [true] (fun x => [x.x.ds]) (fun x => [x.x.ds])) := fnOk_of fun x => fnX_at tab_ok (SOk.cons toTx_ok (SOk.cons toAsk_ok (SOk.cons toPairS_ok SOk.nil))) mixed (fn := Try.f50) (code := body Try.f50) ⟨Try.func50, rfl, by kernel_rfl, by kernel_rfl, by kernel_rfl, by kernel_rfl⟩ (ev_toMsg x)
theorem ev_eqMsg : ∀ x, evFnX tab [(75, (cEq TxX.ds)), (112, (cEq AskX.ds)), (113, (cEqS 2 RngX.ds))] (cEq MsgX.ds) Try.f52 (body Try.f52) x := by
  rintro ⟨⟨k, x, s, m, st, a, c, p, t⟩, ⟨k', x', s', m', st', a', c', p', t'⟩⟩
  repeat' ((conv => whnf); first | refine br2 (fun h => ?_) (fun h => ?_) | (refine ⟨(x, x'), rfl, ?_⟩; rintro _ _ ⟨rfl, rfl⟩) | (refine ⟨(a, a'), rfl, ?_⟩; rintro _ _ ⟨rfl, rfl⟩) | (refine ⟨(p, p'), rfl, ?_⟩; rintro _ _ ⟨rfl, rfl⟩))
  all_goals (conv => whnf)
  all_goals refine ⟨⟨rfl, ?_⟩⟩
  all_goals show _ = [[D.lf (.bool (eqX (⟨k, x, s, m, st, a, c, p, t⟩ : MsgX) ⟨k', x', s', m', st', a', c', p', t'⟩))]]
  all_goals congr 4
  all_goals rw [eq_comm]
  all_goals simp_all [eqX_iff, eqX_no]
theorem eqMsg_ok : FnOk Try.prog 52 (cEq MsgX.ds) := fnOk_of fun x => fnX_at tab_ok (SOk.cons eqTx_ok (SOk.cons eqAsk_ok (SOk.cons eqPairS_ok SOk.nil))) mixed (fn := Try.f52) (code := body Try.f52) ⟨Try.func52, rfl, by kernel_rfl, by kernel_rfl, by kernel_rfl, by kernel_rfl⟩ (ev_eqMsg x)
def pairOkB (p : RngX) : Bool := userOkB p.lo && uvalOkB p.hi
theorem ev_userPair : ∀ x, evFnX tab [(126, cUserOk), (127, cUvalOk)] (pureC RngX [(.rd, true)] [false] (fun x => [x.ds]) (fun x => [[.lf (.bool (pairOkB x))]])) Try.f148 (body Try.f148) x := by
  rintro ⟨u, v⟩
  repeat' ((conv => whnf); first | refine br2 (fun h => ?_) (fun h => ?_) | (refine ⟨u, rfl, ?_⟩; rintro _ _ ⟨rfl, rfl⟩) | (refine ⟨v, rfl, ?_⟩; rintro _ _ ⟨rfl, rfl⟩))
  all_goals (conv => whnf)
  all_goals refine ⟨⟨rfl, ?_⟩⟩
  all_goals show _ = [[D.lf (.bool (pairOkB ⟨u, v⟩))]]
  all_goals simp_all [pairOkB]
theorem userPair_ok : FnOk Try.prog 148 (pureC RngX [(.rd, true)] [false] (fun x => [x.ds]) (fun x => [[.lf (.bool (pairOkB x))]])) := fnOk_of fun x => fnX_at tab_ok (SOk.cons iUserOk_ok (SOk.cons iUvalOk_ok SOk.nil)) mixed (fn := Try.f148) (code := body Try.f148) ⟨Try.func148, rfl, by kernel_rfl, by kernel_rfl, by kernel_rfl, by kernel_rfl⟩ (ev_userPair x)
theorem ev_badPair : ∀ x, evFnX tab [(148, (pureC RngX [(.rd, true)] [false] (fun x => [x.ds]) (fun x => [[.lf (.bool (pairOkB x))]])))] (pureC RngX [(.rd, true)] [false] (fun x => [x.ds]) (fun x => [[.lf (.bool (!pairOkB x))]])) Try.f147 (body Try.f147) x := by
  intro x
  conv => whnf
  refine ⟨x, rfl, ?_⟩
  rintro _ _ ⟨rfl, rfl⟩
  conv => whnf
  exact ⟨⟨rfl, rfl⟩⟩
theorem badPair_ok : FnOk Try.prog 147 (pureC RngX [(.rd, true)] [false] (fun x => [x.ds]) (fun x => [[.lf (.bool (!pairOkB x))]])) := fnOk_of fun x => fnX_at tab_ok (SOk.cons userPair_ok SOk.nil) mixed (fn := Try.f147) (code := body Try.f147) ⟨Try.func147, rfl, by kernel_rfl, by kernel_rfl, by kernel_rfl, by kernel_rfl⟩ (ev_badPair x)
def badD : D := .fn 147 []
def badV : V := .fn 147 []
def cIdxP : Con := relC (List RngX) [(.rd, false), (.rd, false)] [false] (fun x => [[.row 2 RngX.ds x], [badD]]) (fun x r => ∃ k : Int, r = [[.lf (.int .i64 k)]] ∧ decide (0 ≤ k) = x.any fun p => !pairOkB p)
theorem ev_idxP : ∀ x, evFnX tab [(147, (pureC RngX [(.rd, true)] [false] (fun x => [x.ds]) (fun x => [[.lf (.bool (!pairOkB x))]])))] cIdxP Try.f165 (body Try.f165) x := by
  intro (l : List RngX)
  conv => whnf
  intro h1
  replace h1 : l.length ≤ 9223372036854775807 := h1
  conv => whnf
  refine ⟨fun m s h => ∃ i : Nat, i ≤ l.length ∧ (∀ j y, j < i → l[j]? = some y → (!pairOkB y) = false) ∧ m = l.length - i ∧ s = [(8, .lf (.int .i64 i)), (7, .lf (.int .i64 l.length)), (6, .sl 0 none), (1, badV), (0, .sl 0 none)] ∧ h = [(0, some (.row .lent 2 RngX.ds l))],
    l.length, [(0, 0)], [(8, .lf (.int .i64 0)), (7, .lf (.int .i64 l.length)), (6, .sl 0 none), (1, badV), (0, .sl 0 none)], [(0, some (.row .lent 2 RngX.ds l))], ⟨rfl, ⟨rfl, rfl, rfl, rfl, rfl, trivial⟩, ⟨rfl, trivial⟩⟩, ⟨0, by omega, fun j y h => by omega, by omega, rfl, rfl⟩, ?_⟩
  rintro m _ _ ⟨i, g1, g2, rfl, rfl, rfl⟩
  conv => whnf
  refine br2 (fun h5 => ?_) (fun h5 => ?_)
  · have hi : i < l.length := by have := of_decide_eq_true h5; omega
    obtain ⟨y, hy⟩ : ∃ y, l[i]? = some y := ⟨_, List.getElem?_eq_getElem hi⟩
    have hy2 : nth l ((i : Nat) : Int).toNat = some y := by rw [nth_eq, Int.toNat_natCast]; exact hy
    conv => whnf
    refine ⟨Int.natCast_nonneg _, (show (i : Int) < (l.length : Int) by omega), ?_⟩
    conv => whnf
    refine ex2 y hy2 ?_
    conv => whnf
    refine ⟨y, rfl, ?_⟩
    rintro _ _ ⟨rfl, rfl⟩
    conv => whnf
    refine br2 (fun h6 => ?_) (fun h6 => ?_)
    · conv => whnf
      refine ⟨⟨rfl, _, rfl, ?_⟩⟩
      have : (l.any fun p => !pairOkB p) = true := any_at hy h6
      show decide (0 ≤ (i : Int)) = l.any fun p => !pairOkB p
      rw [this, decide_eq_true_iff]
      omega
    · replace h6 : (!pairOkB y) = false := h6
      conv => whnf
      refine ⟨l.length - (i + 1), [(0, 0)], [(8, .lf (.int .i64 ((i + 1 : Nat) : Int))), (7, .lf (.int .i64 l.length)), (6, .sl 0 none), (1, badV), (0, .sl 0 none)], [(0, some (.row .lent 2 RngX.ds l))], by omega, ⟨rfl, ⟨?_, rfl, rfl, rfl, rfl, trivial⟩, ⟨rfl, trivial⟩⟩, i + 1, by omega, fun j z hj hz => ?_, rfl, rfl, rfl⟩
      · show V.lf (.int .i64 (IntKind.i64.wrap ((i : Int) + 1))) = _
        rw [w64 (by omega) (by omega)]; rfl
      · rcases Nat.lt_or_ge j i with h7 | h7
        · exact g2 j z h7 hz
        · obtain rfl : j = i := by omega
          rw [hy] at hz; cases hz; exact h6
  · have hi : i = l.length := by have := of_decide_eq_false h5; omega
    conv => whnf
    refine ⟨⟨rfl, _, rfl, ?_⟩⟩
    have : (l.any fun p => !pairOkB p) = false := any_no (by rw [← hi]; exact g2)
    show decide ((0 : Int) ≤ -1) = l.any fun p => !pairOkB p
    rw [this]
    rfl
theorem idxP_ok : FnOk Try.prog 165 cIdxP := fnOk_of fun x => fnX_at tab_ok (SOk.cons badPair_ok SOk.nil) mixed (fn := Try.f165) (code := body Try.f165) ⟨Try.func165, rfl, by kernel_rfl, by kernel_rfl, by kernel_rfl, by kernel_rfl⟩ (ev_idxP x)
theorem ev_conP : ∀ x, evFnX tab [(165, cIdxP)] (pureC (List RngX) [(.rd, false), (.rd, false)] [false] (fun x => [[.row 2 RngX.ds x], [badD]]) (fun x => [[.lf (.bool (x.any fun p => !pairOkB p))]])) Try.f146 (body Try.f146) x := by
  intro (l : List RngX)
  conv => whnf
  refine ⟨l, rfl, ?_⟩
  rintro _ _ ⟨rfl, k, rfl, k1⟩
  conv => whnf
  refine ⟨⟨rfl, ?_⟩⟩
  replace k1 : decide (0 ≤ k) = l.any fun p => !pairOkB p := k1
  show _ = [[D.lf (.bool (l.any fun p => !pairOkB p))]]
  rw [← k1]
theorem conP_ok : FnOk Try.prog 146 (pureC (List RngX) [(.rd, false), (.rd, false)] [false] (fun x => [[.row 2 RngX.ds x], [badD]]) (fun x => [[.lf (.bool (x.any fun p => !pairOkB p))]])) := fnOk_of fun x => fnX_at tab_ok (SOk.cons idxP_ok SOk.nil) mixed (fn := Try.f146) (code := body Try.f146) ⟨Try.func146, rfl, by kernel_rfl, by kernel_rfl, by kernel_rfl, by kernel_rfl⟩ (ev_conP x)
def tellOkB (x : MsgX) : Bool := decide (x.ps.length ≤ 8) && x.ps.all pairOkB && (if x.code = 0 then decide (1 ≤ x.st) && decide (x.st ≤ 1099511627775) else decide (1 ≤ x.code) && decide (x.code ≤ 9) && x.st == 0)
theorem tellOk_iff {k : Int} {x : TxX} {s m st : Int} {a : AskX} {c : Int} {p : List RngX} {t : Bool} : tellOkB ⟨k, x, s, m, st, a, c, p, t⟩ = true ↔ p.length ≤ 8 ∧ p.all pairOkB = true ∧
    ((c = 0 ∧ 1 ≤ st ∧ st ≤ 1099511627775) ∨ (c ≠ 0 ∧ 1 ≤ c ∧ c ≤ 9 ∧ st = 0)) := by
  unfold tellOkB
  by_cases hc : c = 0
  · subst hc; simp [and_assoc]
  · simp [hc, and_assoc]
theorem ev_tellOk : ∀ x, evFnX tab [(146, (pureC (List RngX) [(.rd, false), (.rd, false)] [false] (fun x => [[.row 2 RngX.ds x], [badD]]) (fun x => [[.lf (.bool (x.any fun p => !pairOkB p))]]))), (93, cWithin)] (pureC MsgX [(.rd, true)] [false] (fun x => [x.ds]) (fun x => [[.lf (.bool (tellOkB x))]])) Try.f110 (body Try.f110) x := by
  rintro ⟨k, x, s, m, st, a, c, p, t⟩
  have e1 : (p.any fun p => !pairOkB p) = !p.all pairOkB := by rw [List.all_eq_not_any_not]; simp
  conv => whnf
  intro h1
  repeat' ((conv => whnf); first | refine br2 (fun h => ?_) (fun h => ?_) | (refine ⟨p, rfl, ?_⟩; rintro _ _ ⟨rfl, rfl⟩) | (refine ⟨⟨st, 1, 1099511627775⟩, rfl, ?_⟩; rintro _ _ ⟨rfl, rfl⟩) | (refine ⟨⟨c, 1, 9⟩, rfl, ?_⟩; rintro _ _ ⟨rfl, rfl⟩))
  all_goals (conv => whnf)
  all_goals refine ⟨⟨rfl, ?_⟩⟩
  all_goals show _ = [[D.lf (.bool (tellOkB ⟨k, x, s, m, st, a, c, p, t⟩))]]
  all_goals congr 4
  all_goals rw [b_iff, tellOk_iff]
  all_goals generalize p.all pairOkB = q at *
  all_goals simp only [e1] at *
  all_goals simp_all
  all_goals try omega
theorem tellOk_ok : FnOk Try.prog 110 (pureC MsgX [(.rd, true)] [false] (fun x => [x.ds]) (fun x => [[.lf (.bool (tellOkB x))]])) := fnOk_of fun x => fnX_at tab_ok (SOk.cons conP_ok (SOk.cons within_ok SOk.nil)) mixed (fn := Try.f110) (code := body Try.f110) ⟨Try.func110, rfl, by kernel_rfl, by kernel_rfl, by kernel_rfl, by kernel_rfl⟩ (ev_tellOk x)
theorem ev_equalP : ∀ x, evFnX tab [] (cEqS 2 RngX.ds) Try.f149 (body Try.f149) x := by
  rintro ⟨l, m⟩
  conv => whnf
  intro h1
  replace h1 : l.length ≤ 9223372036854775807 := h1
  conv => whnf
  intro h2
  conv => whnf
  refine br2 (fun h3 => ?_) (fun h3 => ?_)
  · conv => whnf
    refine ⟨⟨rfl, ?_⟩⟩
    show _ = [[D.lf (.bool (eqX l m))]]
    have : l ≠ m := by rintro rfl; simp at h3
    rw [eqX_no.2 this]
  have hl : l.length = m.length := by
    replace h3 : ((l.length : Int) != (m.length : Int)) = false := h3
    simp at h3; omega
  conv => whnf
  intro _
  conv => whnf
  refine ⟨fun k s h => ∃ i : Nat, i ≤ l.length ∧ (∀ j, j < i → l[j]? = m[j]?) ∧ k = l.length - i ∧ s = [(13, .lf (.int .i64 i)), (12, .lf (.int .i64 l.length)), (0, .sl 0 none), (1, .sl 16 none)] ∧ h = [(0, some (.row .lent 2 RngX.ds l)), (16, some (.row .lent 2 RngX.ds m))],
    l.length, [(0, 0), (16, 16)], [(13, .lf (.int .i64 0)), (12, .lf (.int .i64 l.length)), (0, .sl 0 none), (1, .sl 16 none)], [(0, some (.row .lent 2 RngX.ds l)), (16, some (.row .lent 2 RngX.ds m))], ⟨rfl, ⟨rfl, rfl, rfl, rfl, trivial⟩, ⟨rfl, rfl, trivial⟩⟩, ⟨0, by omega, fun j h => by omega, by omega, rfl, rfl⟩, ?_⟩
  rintro k _ _ ⟨i, g1, g2, rfl, rfl, rfl⟩
  conv => whnf
  refine br2 (fun h5 => ?_) (fun h5 => ?_)
  · have hi : i < l.length := by have := of_decide_eq_true h5; omega
    obtain ⟨y, hy⟩ : ∃ y, l[i]? = some y := ⟨_, List.getElem?_eq_getElem hi⟩
    have hy2 : nth l ((i : Nat) : Int).toNat = some y := by rw [nth_eq, Int.toNat_natCast]; exact hy
    obtain ⟨z, hz⟩ : ∃ z, m[i]? = some z := ⟨_, List.getElem?_eq_getElem (by omega)⟩
    have hz2 : nth m ((i : Nat) : Int).toNat = some z := by rw [nth_eq, Int.toNat_natCast]; exact hz
    conv => whnf
    refine ⟨Int.natCast_nonneg _, (show (i : Int) < (l.length : Int) by omega), ?_⟩
    conv => whnf
    refine ex2 y hy2 ?_
    conv => whnf
    refine ⟨Int.natCast_nonneg _, (show (i : Int) < (m.length : Int) by omega), ?_⟩
    conv => whnf
    refine ex2 z hz2 ?_
    conv => whnf
    have hyz : (strEq y.lo z.lo && (strEq y.hi z.hi && true)) = eqX y z := by
      obtain ⟨a, b⟩ := y
      obtain ⟨c, d⟩ := z
      rw [b_iff]
      simp [eqX_iff, strEq_iff]
    refine br2 (fun h6 => ?_) (fun h6 => ?_)
    · replace h6 : (!(strEq y.lo z.lo && (strEq y.hi z.hi && true))) = true := h6
      rw [hyz, Bool.not_eq_true', eqX_no] at h6
      conv => whnf
      refine ⟨⟨rfl, ?_⟩⟩
      show _ = [[D.lf (.bool (eqX l m))]]
      have : l ≠ m := by rintro rfl; rw [hy] at hz; cases hz; exact h6 rfl
      rw [eqX_no.2 this]
    · replace h6 : (!(strEq y.lo z.lo && (strEq y.hi z.hi && true))) = false := h6
      rw [hyz, Bool.not_eq_false', eqX_iff] at h6
      conv => whnf
      refine ⟨l.length - (i + 1), [(0, 0), (16, 16)], [(13, .lf (.int .i64 ((i + 1 : Nat) : Int))), (12, .lf (.int .i64 l.length)), (0, .sl 0 none), (1, .sl 16 none)], [(0, some (.row .lent 2 RngX.ds l)), (16, some (.row .lent 2 RngX.ds m))], by omega, ⟨rfl, ⟨?_, rfl, rfl, rfl, trivial⟩, ⟨rfl, rfl, trivial⟩⟩, i + 1, by omega, fun j hj => ?_, rfl, rfl, rfl⟩
      · show V.lf (.int .i64 (IntKind.i64.wrap ((i : Int) + 1))) = _
        rw [w64 (by omega) (by omega)]; rfl
      · rcases Nat.lt_or_ge j i with h7 | h7
        · exact g2 j h7
        · obtain rfl : j = i := by omega
          rw [hy, hz, h6]
  · have hi : i = l.length := by have := of_decide_eq_false h5; omega
    conv => whnf
    refine ⟨⟨rfl, ?_⟩⟩
    show _ = [[D.lf (.bool (eqX l m))]]
    have : l = m := by
      apply List.ext_getElem?
      intro j
      rcases Nat.lt_or_ge j l.length with h | h
      · exact g2 j (by omega)
      · rw [List.getElem?_eq_none h, List.getElem?_eq_none (by omega)]
    rw [eqX_iff.2 this]
theorem equalP_ok : FnOk Try.prog 149 (cEqS 2 RngX.ds) := fnOk_of fun x => fnX_at tab_ok (SOk.nil) mixed (fn := Try.f149) (code := body Try.f149) ⟨Try.func149, rfl, by kernel_rfl, by kernel_rfl, by kernel_rfl, by kernel_rfl⟩ (ev_equalP x)
theorem ev_sameMsg : ∀ x, evFnX tab [(149, (cEqS 2 RngX.ds))] (cEq MsgX.ds) Try.f111 (body Try.f111) x := by
  rintro ⟨⟨k, ⟨x1, x2, x3⟩, s, m, st, ⟨a1, a2, a3, ⟨a4, a5⟩, a6, a7⟩, c, p, t⟩, ⟨k', ⟨x1', x2', x3'⟩, s', m', st', ⟨a1', a2', a3', ⟨a4', a5'⟩, a6', a7'⟩, c', p', t'⟩⟩
  repeat' ((conv => whnf); first | refine br2 (fun h => ?_) (fun h => ?_) | (refine ⟨(p, p'), rfl, ?_⟩; rintro _ _ ⟨rfl, rfl⟩))
  all_goals (conv => whnf)
  all_goals refine ⟨⟨rfl, ?_⟩⟩
  all_goals show _ = [[D.lf (.bool (eqX (⟨k, ⟨x1, x2, x3⟩, s, m, st, ⟨a1, a2, a3, ⟨a4, a5⟩, a6, a7⟩, c, p, t⟩ : MsgX) ⟨k', ⟨x1', x2', x3'⟩, s', m', st', ⟨a1', a2', a3', ⟨a4', a5'⟩, a6', a7'⟩, c', p', t'⟩))]]
  all_goals congr 4
  all_goals rw [b_iff, eqX_iff]
  all_goals simp_all [eqX_iff, eqX_no, strEq_iff, strEq_no]

theorem sameMsg_ok : FnOk Try.prog 111 (cEq MsgX.ds) := fnOk_of fun x => fnX_at tab_ok (SOk.cons equalP_ok SOk.nil) mixed (fn := Try.f111) (code := body Try.f111) ⟨Try.func111, rfl, by kernel_rfl, by kernel_rfl, by kernel_rfl, by kernel_rfl⟩ (ev_sameMsg x)
end Go.Vm
namespace Go.Vm
open Go.Proofs
set_option maxRecDepth 100000
set_option linter.unusedVariables false
set_option linter.unusedSimpArgs false

def ask0 : AskX := ⟨0, ⟨#[]⟩, ⟨#[]⟩, rng0, 0, false⟩
def MsgOkP (x : MsgX) : Prop :=
  txOkB x.tx = true ∧ 0 ≤ x.sh ∧ x.sh ≤ 3 ∧ 1 ≤ x.k ∧ x.k ≤ 7 ∧
  (if x.k = 1 ∨ x.k = 2 ∨ x.k = 3 then 1 ≤ x.num ∧ x.num ≤ 16 else x.num = 0) ∧
  (if x.k = 1 then askOkB x.ask = true else x.ask = ask0) ∧
  (if x.k = 2 then 0 ≤ x.code ∧ x.code ≤ 9 ∧ x.ps.length ≤ 8 else x.code = 0 ∧ x.ps = []) ∧ x.ps.all pairOkB = true ∧
  (if x.k = 3 ∨ (x.k = 2 ∧ x.code = 0) then 1 ≤ x.st ∧ x.st ≤ 1099511627775 else x.st = 0) ∧ (x.yes = true → x.k = 4 ∨ x.k = 5)
def cMsgOk : Con := relC MsgX [(.rd, true)] [false] (fun x => [x.ds]) (fun x r => ∃ b : Bool, r = [[.lf (.bool b)]] ∧ (b = true ↔ MsgOkP x))
theorem tellOk_no {k : Int} {x : TxX} {s m st : Int} {a : AskX} {c : Int} {p : List RngX} {t : Bool} : tellOkB ⟨k, x, s, m, st, a, c, p, t⟩ = false ↔ ¬ (p.length ≤ 8 ∧ p.all pairOkB = true ∧
    ((c = 0 ∧ 1 ≤ st ∧ st ≤ 1099511627775) ∨ (c ≠ 0 ∧ 1 ≤ c ∧ c ≤ 9 ∧ st = 0))) := by
  rw [← tellOk_iff (k := k) (x := x) (s := s) (m := m) (a := a) (t := t)]; simp
theorem no_iff {p : Prop} (h : ¬ p) : false = true ↔ p := ⟨(fun h => by cases h), fun x => absurd x h⟩
theorem ev_iMsgOk : ∀ x, evFnX tab [(71, cTxOk), (93, cWithin), (109, cAskOk), (110, (pureC MsgX [(.rd, true)] [false] (fun x => [x.ds]) (fun x => [[.lf (.bool (tellOkB x))]]))), (111, (cEq MsgX.ds))] cMsgOk Try.f51 (body Try.f51) x := by
  rintro ⟨k, x, s, m, st, a, c, p, t⟩
  repeat' ((conv => whnf); first
    | refine br2 (fun h => ?_) (fun h => ?_)
    | refine rc_i rfl ?_
    | (refine ⟨x, rfl, ?_⟩; rintro _ _ ⟨rfl, rfl⟩)
    | (refine ⟨⟨m, 1, 16⟩, rfl, ?_⟩; rintro _ _ ⟨rfl, rfl⟩)
    | (refine ⟨⟨st, 1, 1099511627775⟩, rfl, ?_⟩; rintro _ _ ⟨rfl, rfl⟩)
    | (refine ⟨⟨s, 0, 3⟩, rfl, ?_⟩; rintro _ _ ⟨rfl, rfl⟩)
    | (refine ⟨a, rfl, ?_⟩; rintro _ _ ⟨rfl, rfl⟩)
    | (refine ⟨⟨k, x, s, m, st, a, c, p, t⟩, rfl, ?_⟩; rintro _ _ ⟨rfl, rfl⟩)
    | refine ⟨2, RngX, RngX.ds, fun _ => rfl, ?_⟩
    | (refine ⟨(⟨k, x, s, m, st, a, c, p, t⟩, ⟨k, x, s, m, 0, a, 0, [], false⟩), rfl, ?_⟩; rintro _ _ ⟨rfl, rfl⟩)
    | (refine ⟨(⟨k, x, s, m, st, a, c, p, t⟩, ⟨k, x, s, m, st, ask0, c, p, false⟩), rfl, ?_⟩; rintro _ _ ⟨rfl, rfl⟩)
    | (refine ⟨(⟨k, x, s, m, st, a, c, p, t⟩, ⟨k, x, s, m, st, ask0, 0, [], false⟩), rfl, ?_⟩; rintro _ _ ⟨rfl, rfl⟩)
    | (refine ⟨(⟨k, x, s, m, st, a, c, p, t⟩, ⟨k, x, s, 0, 0, ask0, 0, [], t⟩), rfl, ?_⟩; rintro _ _ ⟨rfl, rfl⟩)
    | (refine ⟨(⟨k, x, s, m, st, a, c, p, t⟩, ⟨k, x, s, 0, 0, ask0, 0, [], false⟩), rfl, ?_⟩; rintro _ _ ⟨rfl, rfl⟩))
  all_goals (conv => whnf)
  all_goals refine ⟨⟨rfl, _, rfl, ?_⟩⟩
  all_goals first
    | (have hT : tellOkB ⟨k, x, s, m, st, a, c, p, t⟩ = false := by assumption
       refine no_iff fun ⟨_, _, _, _, _, _, _, h8, h9, h10, _⟩ => ?_
       have hk : (k == 2) = true := by assumption
       rw [beq_iff_eq] at hk
       subst hk
       replace h8 : if (2 : Int) = 2 then 0 ≤ c ∧ c ≤ 9 ∧ p.length ≤ 8 else c = 0 ∧ p = [] := h8
       replace h10 : if (2 : Int) = 3 ∨ ((2 : Int) = 2 ∧ c = 0) then 1 ≤ st ∧ st ≤ 1099511627775 else st = 0 := h10
       rw [if_pos rfl] at h8
       refine absurd (tellOk_iff.2 ⟨h8.2.2, h9, ?_⟩) (by rw [hT]; simp)
       by_cases hc : c = 0
       · rw [if_pos (by simp [hc])] at h10
         exact .inl ⟨hc, h10⟩
       · rw [if_neg (by simp [hc])] at h10
         exact .inr ⟨hc, by omega, by omega, h10⟩)
    | refine no_iff fun hh => ?_
    | refine ⟨fun hh => ?_, fun hh => ?_⟩
  all_goals simp only [MsgOkP, Bool.and_eq_false_iff, decide_eq_false_iff_not, Int.not_le] at *
  all_goals simp_all [eqX_iff, eqX_no, tellOk_iff, tellOk_no, -List.all_eq_true, -List.all_eq_false]
  all_goals try omega
  all_goals try (split at hh <;> simp_all <;> omega)
  all_goals try (refine ⟨by omega, ?_⟩; split <;> omega)
theorem iMsgOk_ok : FnOk Try.prog 51 cMsgOk := fnOk_of fun x => fnX_at tab_ok (SOk.cons iTxOk_ok (SOk.cons within_ok (SOk.cons iAskOk_ok (SOk.cons tellOk_ok (SOk.cons sameMsg_ok SOk.nil))))) mixed (fn := Try.f51) (code := body Try.f51) ⟨Try.func51, rfl, by kernel_rfl, by kernel_rfl, by kernel_rfl, by kernel_rfl⟩ (ev_iMsgOk x)
end Go.Vm
namespace Go.Vm
open Go.Proofs
set_option maxRecDepth 100000
set_option maxHeartbeats 4000000
set_option linter.unusedVariables false
set_option linter.unusedSimpArgs false

structure IntX where
  n : Int
theorem ev_sNumOk : ∀ x, evFnX tab [] (pureC IntX [(.rd, false)] [false] (fun x => [[.lf (.int .i64 x.n)]]) (fun x => [[.lf (.bool (decide (1 ≤ x.n) && decide (x.n ≤ 16)))]])) Try.f104 (body Try.f104) x := by
  rintro ⟨n⟩
  repeat' ((conv => whnf); refine br2 (fun h => ?_) (fun h => ?_))
  all_goals (conv => whnf)
  all_goals refine ⟨⟨rfl, ?_⟩⟩
  · show _ = [[D.lf (.bool (decide (1 ≤ n) && decide (n ≤ 16)))]]
    rw [show decide (1 ≤ n) = true from h, Bool.true_and]
  · show _ = [[D.lf (.bool (decide (1 ≤ n) && decide (n ≤ 16)))]]
    rw [show decide (1 ≤ n) = false from h, Bool.false_and]
theorem sNumOk_ok : FnOk Try.prog 104 (pureC IntX [(.rd, false)] [false] (fun x => [[.lf (.int .i64 x.n)]]) (fun x => [[.lf (.bool (decide (1 ≤ x.n) && decide (x.n ≤ 16)))]])) := fnOk_of fun x => fnX_at tab_ok (SOk.nil) mixed (fn := Try.f104) (code := body Try.f104) ⟨Try.func104, rfl, by kernel_rfl, by kernel_rfl, by kernel_rfl, by kernel_rfl⟩ (ev_sNumOk x)
theorem ev_sStOk : ∀ x, evFnX tab [] (pureC IntX [(.rd, false)] [false] (fun x => [[.lf (.int .i64 x.n)]]) (fun x => [[.lf (.bool (decide (0 ≤ x.n) && decide (x.n ≤ 1099511627775)))]])) Try.f106 (body Try.f106) x := by
  rintro ⟨n⟩
  repeat' ((conv => whnf); refine br2 (fun h => ?_) (fun h => ?_))
  all_goals (conv => whnf)
  all_goals refine ⟨⟨rfl, ?_⟩⟩
  · show _ = [[D.lf (.bool (decide (0 ≤ n) && decide (n ≤ 1099511627775)))]]
    rw [show decide (0 ≤ n) = true from h, Bool.true_and]
  · show _ = [[D.lf (.bool (decide (0 ≤ n) && decide (n ≤ 1099511627775)))]]
    rw [show decide (0 ≤ n) = false from h, Bool.false_and]
theorem sStOk_ok : FnOk Try.prog 106 (pureC IntX [(.rd, false)] [false] (fun x => [[.lf (.int .i64 x.n)]]) (fun x => [[.lf (.bool (decide (0 ≤ x.n) && decide (x.n ≤ 1099511627775)))]])) := fnOk_of fun x => fnX_at tab_ok (SOk.nil) mixed (fn := Try.f106) (code := body Try.f106) ⟨Try.func106, rfl, by kernel_rfl, by kernel_rfl, by kernel_rfl, by kernel_rfl⟩ (ev_sStOk x)
def MsgPreP (x : MsgX) : Prop :=
  txOkB x.tx = true ∧ 0 ≤ x.sh ∧ x.sh ≤ 3 ∧ 1 ≤ x.k ∧ x.k ≤ 7 ∧
  (if x.k = 1 ∨ x.k = 2 ∨ x.k = 3 then 1 ≤ x.num ∧ x.num ≤ 16 else x.num = 0) ∧
  (if x.k = 1 then askOkB x.ask = true else x.ask = ask0) ∧
  (if x.k = 2 then 0 ≤ x.code ∧ x.code ≤ 9 ∧ x.ps.length ≤ 8 else x.code = 0 ∧ x.ps = [])
def MsgPostP (x : MsgX) : Prop := (if x.k = 3 ∨ (x.k = 2 ∧ x.code = 0) then 1 ≤ x.st ∧ x.st ≤ 1099511627775 else x.st = 0) ∧ (x.yes = true → x.k = 4 ∨ x.k = 5)
theorem msg_split {x : MsgX} : MsgOkP x ↔ MsgPreP x ∧ x.ps.all pairOkB = true ∧ MsgPostP x := by
  unfold MsgOkP MsgPreP MsgPostP
  simp only [and_assoc]
theorem ask0_iff {a : AskX} : (a.k == 0 && (strEq a.u ⟨#[]⟩ && (strEq a.v ⟨#[]⟩ && (strEq a.r.lo ⟨#[]⟩ && (strEq a.r.hi ⟨#[]⟩ && (a.n == 0 && (a.b == false && true))))))) = true ↔ a = ask0 := by
  obtain ⟨k, u, v, ⟨r1, r2⟩, n, b⟩ := a
  simp [ask0, rng0, strEq_iff, and_assoc]
theorem ask0_no {a : AskX} : (a.k == 0 && (strEq a.u ⟨#[]⟩ && (strEq a.v ⟨#[]⟩ && (strEq a.r.lo ⟨#[]⟩ && (strEq a.r.hi ⟨#[]⟩ && (a.n == 0 && (a.b == false && true))))))) = false ↔ ¬ a = ask0 := by
  rw [← ask0_iff]; simp
def MsgX.vs (x : MsgX) : List V := [.lf (.int .i64 x.k), .lf (.int .i64 x.tx.c), .lf (.int .i64 x.tx.e), .lf (.int .i64 x.tx.n), .lf (.int .i64 x.sh), .lf (.int .i64 x.num), .lf (.int .i64 x.st),
  .lf (.int .i64 x.ask.k), .lf (.string x.ask.u), .lf (.string x.ask.v), .lf (.string x.ask.r.lo), .lf (.string x.ask.r.hi), .lf (.int .i64 x.ask.n), .lf (.bool x.ask.b),
  .lf (.int .i64 x.code), .sl 0 none, .lf (.bool x.yes)]
theorem no_pair {x : MsgX} {y : RngX} {i : Nat} (hy : x.ps[i]? = some y) (h : pairOkB y = false) : ¬ MsgOkP x := fun hh => by
  have h1 := (msg_split.1 hh).2.1
  rw [List.all_eq_true] at h1
  rw [h1 y (List.mem_of_getElem? hy)] at h
  cases h
theorem msg_post {x : MsgX} {e : Bool} (h1 : MsgPreP x) (h2 : x.ps.all pairOkB = true) (h3 : e = true ↔ MsgPostP x) : e = true ↔ MsgOkP x := by
  rw [msg_split, h3]
  exact ⟨fun h => ⟨h1, h2, h⟩, fun h => h.2.2⟩
theorem ev_sMsgOk : ∀ x, evFnX tab [(69, cTxOk), (104, (pureC IntX [(.rd, false)] [false] (fun x => [[.lf (.int .i64 x.n)]]) (fun x => [[.lf (.bool (decide (1 ≤ x.n) && decide (x.n ≤ 16)))]]))), (105, cAskOk), (99, cUserOk), (100, cUvalOk), (106, (pureC IntX [(.rd, false)] [false] (fun x => [[.lf (.int .i64 x.n)]]) (fun x => [[.lf (.bool (decide (0 ≤ x.n) && decide (x.n ≤ 1099511627775)))]])))] cMsgOk Try.f49 (body Try.f49) x := by
  rintro ⟨k, x, s, m, st, a, c, p, t⟩
  repeat' ((conv => whnf); first
    | refine br2 (fun h => ?_) (fun h => ?_)
    | (refine ⟨x, rfl, ?_⟩; rintro _ _ ⟨rfl, rfl⟩)
    | (refine ⟨⟨m⟩, rfl, ?_⟩; rintro _ _ ⟨rfl, rfl⟩)
    | (refine ⟨a, rfl, ?_⟩; rintro _ _ ⟨rfl, rfl⟩)
    | intro hl)
  all_goals (conv => whnf)
  all_goals simp only [Bool.not_eq_true', Bool.not_eq_false', ask0_iff, ask0_no] at *
  all_goals first
    | (refine ⟨⟨rfl, _, rfl, no_iff fun hh => ?_⟩⟩
       rw [msg_split] at hh
       replace hh := hh.1
       simp only [MsgPreP, Bool.and_eq_false_iff, decide_eq_false_iff_not, Int.not_le] at *
       simp_all
       try omega)
    | (exfalso; simp_all; done)
    | have hp : MsgPreP ⟨k, x, s, m, st, a, c, p, t⟩ := by
        simp only [MsgPreP, Bool.and_eq_false_iff, decide_eq_false_iff_not, Int.not_le] at *
        simp_all
        try omega
  all_goals
    have hlen : p.length ≤ 9223372036854775807 := by assumption
    refine ⟨fun m_ s_ h_ => ∃ i : Nat, i ≤ p.length ∧ (∀ j y, j < i → p[j]? = some y → pairOkB y = true) ∧ m_ = p.length - i ∧ s_ = [(115, .lf (.int .i64 i)), (114, .lf (.int .i64 p.length)), (113, .sl 0 none), (1, .pt 16 0 0)] ∧ h_ = [(16, some (.arr true 17 [MsgX.vs ⟨k, x, s, m, st, a, c, p, t⟩])), (0, some (.row .lent 2 RngX.ds p))],
      p.length, [(16, 16), (0, 0)], [(115, .lf (.int .i64 0)), (114, .lf (.int .i64 p.length)), (113, .sl 0 none), (1, .pt 16 0 0)], [(16, some (.arr true 17 [MsgX.vs ⟨k, x, s, m, st, a, c, p, t⟩])), (0, some (.row .lent 2 RngX.ds p))], ⟨rfl, ⟨rfl, rfl, rfl, rfl, trivial⟩, ⟨rfl, rfl, trivial⟩⟩, ⟨0, by omega, fun j y h => by omega, by omega, rfl, rfl⟩, ?_⟩
    rintro m_ _ _ ⟨i, g1, g2, rfl, rfl, rfl⟩
    conv => whnf
    refine br2 (fun h5 => ?_) (fun h5 => ?_)
    · have hi : i < p.length := by have := of_decide_eq_true h5; omega
      obtain ⟨y, hy⟩ : ∃ y, p[i]? = some y := ⟨_, List.getElem?_eq_getElem hi⟩
      have hy2 : nth p ((i : Nat) : Int).toNat = some y := by rw [nth_eq, Int.toNat_natCast]; exact hy
      conv => whnf
      refine ⟨Int.natCast_nonneg _, (show (i : Int) < (p.length : Int) by omega), ?_⟩
      conv => whnf
      refine ex2 y hy2 ?_
      conv => whnf
      refine ⟨y.lo, rfl, ?_⟩
      rintro _ _ ⟨rfl, rfl⟩
      conv => whnf
      refine br2 (fun h6 => ?_) (fun h6 => ?_)
      · replace h6 : userOkB y.lo = false := nt_t h6
        conv => whnf
        exact ⟨⟨rfl, false, rfl, no_iff (no_pair hy (by simp [pairOkB, h6]))⟩⟩
      replace h6 : userOkB y.lo = true := nt_f h6
      conv => whnf
      refine ⟨y.hi, rfl, ?_⟩
      rintro _ _ ⟨rfl, rfl⟩
      conv => whnf
      refine br2 (fun h7 => ?_) (fun h7 => ?_)
      · replace h7 : uvalOkB y.hi = false := nt_t h7
        conv => whnf
        exact ⟨⟨rfl, false, rfl, no_iff (no_pair hy (by simp [pairOkB, h7]))⟩⟩
      replace h7 : uvalOkB y.hi = true := nt_f h7
      conv => whnf
      refine ⟨p.length - (i + 1), [(16, 16), (0, 0)], [(115, .lf (.int .i64 ((i + 1 : Nat) : Int))), (114, .lf (.int .i64 p.length)), (113, .sl 0 none), (1, .pt 16 0 0)], [(16, some (.arr true 17 [MsgX.vs ⟨k, x, s, m, st, a, c, p, t⟩])), (0, some (.row .lent 2 RngX.ds p))], by omega, ⟨rfl, ⟨?_, rfl, rfl, rfl, trivial⟩, ⟨rfl, rfl, trivial⟩⟩, i + 1, by omega, fun j z hj hz => ?_, rfl, rfl, rfl⟩
      · show V.lf (.int .i64 (IntKind.i64.wrap ((i : Int) + 1))) = _
        rw [w64 (by omega) (by omega)]; rfl
      · rcases Nat.lt_or_ge j i with h10 | h10
        · exact g2 j z h10 hz
        · obtain rfl : j = i := by omega
          rw [hy] at hz; cases hz; simp [pairOkB, h6, h7]
    have hi : i = p.length := by have := of_decide_eq_false h5; omega
    have hps : p.all pairOkB = true := by
      rw [List.all_eq_true]
      intro y hy
      obtain ⟨j, hj⟩ := List.getElem?_of_mem hy
      exact g2 j y (by rw [hi]; exact (List.getElem?_eq_some_iff.1 hj).1) hj
    clear g1 g2 h5 hi
    repeat' ((conv => whnf); first
      | refine br2 (fun h => ?_) (fun h => ?_)
      | (refine ⟨⟨st⟩, rfl, ?_⟩; rintro _ _ ⟨rfl, rfl⟩))
    all_goals (conv => whnf)
    all_goals refine ⟨⟨rfl, _, rfl, msg_post hp hps ?_⟩⟩
    all_goals clear hp hps
    all_goals simp only [MsgPostP, Bool.and_eq_false_iff, decide_eq_false_iff_not, Int.not_le, Bool.not_eq_true', Bool.not_eq_false'] at *
    all_goals simp_all
    all_goals try omega
theorem sMsgOk_ok : FnOk Try.prog 49 cMsgOk := fnOk_of fun x => fnX_at tab_ok (SOk.cons sTxOk_ok (SOk.cons sNumOk_ok (SOk.cons sAskOk_ok (SOk.cons sUserOk_ok (SOk.cons sUvalOk_ok (SOk.cons sStOk_ok SOk.nil)))))) mixed (fn := Try.f49) (code := body Try.f49) ⟨Try.func49, rfl, by kernel_rfl, by kernel_rfl, by kernel_rfl, by kernel_rfl⟩ (ev_sMsgOk x)
end Go.Vm
namespace Go.Vm
open Go.Proofs
set_option maxRecDepth 100000
set_option linter.unusedVariables false
set_option linter.unusedSimpArgs false

theorem b_eq2 {a b : Bool} {p : Prop} (h : a = true ↔ p) (h' : b = true ↔ p) : a = b := by
  cases a <;> cases b <;> simp_all
structure MsgZ where
  x : MsgX
  hb : msgB0 x
theorem ev_lawMsgOk : ∀ x, evFnX tab [(48, (cSz MsgX.ds msgB0 msgB)), (50, (pureC MsgY [(.rd, true)] [true] (fun x => [x.x.ds]) (fun x => [x.x.ds]))), (49, cMsgOk), (51, cMsgOk), (52, (cEq MsgX.ds))] (pureC MsgZ [(.rd, true)] [false] (fun x => [x.x.ds]) (fun _ => [[.lf (.bool true)]])) Try.f10 (body Try.f10) x := by
  rintro ⟨x, hb⟩
  conv => whnf
  refine ⟨⟨x, 1048576, by omega, by omega, hb⟩, rfl, ?_⟩
  rintro _ _ ⟨rfl, k, rfl, k1, k2, k3⟩
  conv => whnf
  refine br2 (fun h3 => ?_) (fun h3 => ?_)
  · conv => whnf
    exact ⟨⟨rfl, rfl⟩⟩
  have h3' := of_decide_eq_false h3
  obtain ⟨k4, _⟩ : msgB x := k3 (by omega)
  conv => whnf
  refine ⟨⟨x, k4⟩, rfl, ?_⟩
  rintro _ _ ⟨rfl, rfl⟩
  conv => whnf
  refine ⟨x, rfl, ?_⟩
  rintro _ _ ⟨rfl, b, rfl, e1⟩
  conv => whnf
  refine ⟨⟨x, k4⟩, rfl, ?_⟩
  rintro _ _ ⟨rfl, rfl⟩
  conv => whnf
  refine ⟨x, rfl, ?_⟩
  rintro _ _ ⟨rfl, b', rfl, e2⟩
  conv => whnf
  refine br2 (fun h4 => ?_) (fun h4 => ?_)
  · exfalso
    have e3 := b_eq2 e2 e1
    subst e3
    simp at h4
  conv => whnf
  refine ⟨⟨x, k4⟩, rfl, ?_⟩
  rintro _ _ ⟨rfl, rfl⟩
  conv => whnf
  repeat (refine rc_i rfl ?_; conv => whnf)
  refine ⟨(x, x), rfl, ?_⟩
  rintro _ _ ⟨rfl, rfl⟩
  conv => whnf
  refine br2 (fun h5 => ?_) (fun h5 => ?_)
  · rw [show (!eqX x x) = false by rw [eqX_refl]; rfl] at h5
    cases h5
  conv => whnf
  exact ⟨⟨rfl, rfl⟩⟩
theorem lawMsgOk_ok : FnOk Try.prog 10 (pureC MsgZ [(.rd, true)] [false] (fun x => [x.x.ds]) (fun _ => [[.lf (.bool true)]])) := fnOk_of fun x => fnX_at tab_ok (SOk.cons szMsg_ok (SOk.cons toMsg_ok (SOk.cons sMsgOk_ok (SOk.cons iMsgOk_ok (SOk.cons eqMsg_ok SOk.nil))))) mixed (fn := Try.f10) (code := body Try.f10) ⟨Try.func10, rfl, by kernel_rfl, by kernel_rfl, by kernel_rfl, by kernel_rfl⟩ (ev_lawMsgOk x)
end Go.Vm
