/- Contracts: words. -/
import Derived.Test.YthoiahaedhnigaaVmT
namespace Go.Vm
open Go.Proofs

def body (f : Func) : Code := match f.body with | some c => c | none => .skip
/-- A function whose results are told by its parameters and that changes nothing. -/
def pureC (X : Type) (params : List (Mode × Bool)) (res : List Bool) (ins : X → List (List D)) (f : X → List (List D)) : Con :=
  { X := X, params := params, res := res, resOwn := true, ins := ins, post := fun x outs r => outs = [] ∧ r = f x }
/-- One of whose results something is known. -/
def relC (X : Type) (params : List (Mode × Bool)) (res : List Bool) (ins : X → List (List D)) (R : X → List (List D) → Prop) : Con :=
  { X := X, params := params, res := res, resOwn := true, ins := ins, post := fun x outs r => outs = [] ∧ R x r }

theorem SOk.nil {P : Program} : SOk P [] := fun p hp => by simp at hp
theorem SOk.cons {P : Program} {f : Nat} {c : Con} {S : Cons} (h : FnOk P f c) (hs : SOk P S) : SOk P ((f, c) :: S) := fun p hp => by
  rcases List.mem_cons.1 hp with rfl | hp
  · exact h
  · exact hs p hp

/-- A mark: at this region moves are told that the program does not see. -/
def cGh : Con := { X := Empty, params := [], res := [], resOwn := true, ins := fun _ => [], post := fun _ _ _ => True }
theorem gh_ok {P : Program} {n : Nat} : FnOk P n cGh := fun x => nomatch x
theorem nthI {β : Type} {l : List β} {j : Nat} {y : β} (h : l[j]? = some y) : nth l ((j : Nat) : Int).toNat = some y := by rw [nth_eq, Int.toNat_natCast]; exact h
theorem getL {β : Type} {l : List β} {j : Nat} (h : j < l.length) : ∃ y, l[j]? = some y := ⟨_, List.getElem?_eq_getElem h⟩

/-- Equality as a bool. -/
noncomputable def eqX {α : Type} (a b : α) : Bool := haveI := Classical.propDecidable (a = b); decide (a = b)
theorem eqX_iff {α : Type} {a b : α} : eqX a b = true ↔ a = b := by unfold eqX; simp
theorem eqX_no {α : Type} {a b : α} : eqX a b = false ↔ a ≠ b := by unfold eqX; simp
theorem eqX_refl {α : Type} (a : α) : eqX a a = true := eqX_iff.2 rfl
theorem b_iff {a b : Bool} : a = b ↔ (a = true ↔ b = true) := by cases a <;> cases b <;> simp

theorem w64 {n : Int} (h1 : -9223372036854775808 ≤ n) (h2 : n ≤ 9223372036854775807) : IntKind.i64.wrap n = n := by
  simp [IntKind.wrap, IntKind.bits, IntKind.signed]; omega
/-- The byte of a number. -/
def b8 (n : Int) : UInt8 := UInt8.ofNat (n % 256).toNat
theorem w8 (n : Int) : IntKind.u8.wrap n = ((b8 n).toNat : Int) := by
  simp [IntKind.wrap, IntKind.bits, IntKind.signed, b8]
  omega
theorem encB_len (a : UInt8) : (encB a).length = 1 := rfl
theorem flat_encB (a : UInt8) : flatL (encB a) = true := rfl
theorem map_b8 (n : Int) : [b8 n].map encB = [[.lf (.int .u8 (IntKind.u8.wrap n))]] := by rw [w8]; rfl

theorem u8_of {n : Int} {k : Nat} (h : n = k) (hk : k < 256) : IntKind.u8.wrap n = ((UInt8.ofNat k).toNat : Int) := by
  subst h
  rw [w8]
  congr 2
  unfold b8
  congr 1
  omega
theorem enc_u8 {n : Int} {k : Nat} (h : n = k) (hk : k < 256) : [UInt8.ofNat k].map encB = [[.lf (.int .u8 (IntKind.u8.wrap n))]] := by rw [u8_of h hk]; rfl
theorem tmodN (n : Nat) (k : Nat) : (n : Int).tmod k = ((n % k : Nat) : Int) := by rw [Int.tmod_eq_emod_of_nonneg (by omega)]; rfl
theorem tdivN (n : Nat) (k : Nat) : (n : Int).tdiv k = ((n / k : Nat) : Int) := by rw [Int.tdiv_eq_ediv_of_nonneg (by omega)]; rfl

theorem tmod128 (n : Nat) : (n : Int).tmod 128 = ((n % 128 : Nat) : Int) := tmodN n 128
theorem tdiv128 (n : Nat) : (n : Int).tdiv 128 = ((n / 128 : Nat) : Int) := tdivN n 128
theorem tmod10 (n : Nat) : (n : Int).tmod 10 = ((n % 10 : Nat) : Int) := tmodN n 10
theorem tdiv10 (n : Nat) : (n : Int).tdiv 10 = ((n / 10 : Nat) : Int) := tdivN n 10

/-- A number in base 128. -/
def varB (n : Nat) : List UInt8 := if n < 128 then [UInt8.ofNat n] else UInt8.ofNat (n % 128 + 128) :: varB (n / 128)
theorem varB_lt {n : Nat} (h : n < 128) : varB n = [UInt8.ofNat n] := by rw [varB, if_pos h]
theorem varB_ge {n : Nat} (h : ¬ n < 128) : varB n = UInt8.ofNat (n % 128 + 128) :: varB (n / 128) := by rw [varB, if_neg h]
end Go.Vm
namespace Go.Vm
open Go.Proofs
set_option maxRecDepth 100000
set_option linter.unusedVariables false
set_option linter.unusedSimpArgs false

theorem varB_le {k n : Nat} (h : n < 128 ^ k) (hk : 0 < k) : (varB n).length ≤ k := by
  have key : ∀ k n, n < 128 ^ k → 0 < k → (varB n).length ≤ k := by
    intro k
    induction k with
    | zero => intro n h h0; omega
    | succ k ih =>
      intro n h _
      by_cases hn : n < 128
      · rw [varB_lt hn]; simp
      · rw [varB_ge hn]
        rw [Nat.pow_succ] at h
        have : n / 128 < 128 ^ k := Nat.div_lt_of_lt_mul (by omega)
        have hk : 0 < k := by
          rcases Nat.eq_zero_or_pos k with rfl | h1
          · simp at h; omega
          · exact h1
        have := ih _ this hk
        simp; omega
  exact key k n h hk
theorem varB_len {n : Nat} (h : n ≤ 9223372036854775807) : (varB n).length ≤ 10 := varB_le (by omega) (by omega)
theorem varB_len6 {n : Nat} (h : n ≤ 1099511627775) : (varB n).length ≤ 6 := varB_le (by omega) (by omega)
theorem varB_pos (n : Nat) : 1 ≤ (varB n).length := by
  by_cases h : n < 128
  · rw [varB_lt h]; simp
  · rw [varB_ge h]; simp
/-- The bytes of a text; a text behind its length. -/
def bs (s : ByteArray) : List UInt8 := s.data.toList
def encT (s : ByteArray) : List UInt8 := varB s.size ++ bs s
theorem bs_len (s : ByteArray) : (bs s).length = s.size := by simp [bs]
def ofB (l : List UInt8) : ByteArray := ⟨l.toArray⟩
theorem bs_of (l : List UInt8) : bs (ofB l) = l := by simp [bs, ofB]
theorem of_bs (s : ByteArray) : ofB (bs s) = s := by simp [bs, ofB]
theorem of_size (l : List UInt8) : (ofB l).size = l.length := by rw [← bs_len, bs_of]

structure VaryX where
  l : List UInt8
  n : Nat
  hl : l.length ≤ 4294967000
  hn : n ≤ 9223372036854775807
def cVary : Con := pureC VaryX [(.take, false), (.rd, false)] [false] (fun x => [[.row 1 encB x.l], [.lf (.int .i64 x.n)]]) (fun x => [[.row 1 encB (x.l ++ varB x.n)]])

theorem ev_vary : ∀ x, evFn tab [] cVary Try.f143 (body Try.f143) x := by
  rintro ⟨l, n, hl, hn⟩
  conv => whnf
  refine ⟨fun m s h => ∃ (l' : List UInt8) (n' : Nat), l ++ varB n = l' ++ varB n' ∧ n' ≤ 9223372036854775807 ∧ m = n' ∧ s = [(0, .sl 0 none), (1, .lf (.int .i64 n'))] ∧ h = [(0, some (.row .own 1 encB l'))],
    n, [(0, 0)], [(0, .sl 0 none), (1, .lf (.int .i64 n))], [(0, some (.row .own 1 encB l))], ⟨rfl, ⟨rfl, rfl, trivial⟩, ⟨rfl, trivial⟩⟩, ⟨l, n, rfl, hn, rfl, rfl, rfl⟩, ?_⟩
  rintro m _ _ ⟨l', n', h1, h2, rfl, rfl, rfl⟩
  have hlen := congrArg List.length h1
  have hv := varB_len hn
  simp only [List.length_append] at hlen
  conv => whnf
  refine br2 (fun h3 => ?_) (fun h3 => ?_)
  · have h3' : ¬ m < 128 := by simp at h3; omega
    have hm : ((m : Int).tmod 128) = ((m % 128 : Nat) : Int) := tmodN m 128
    have hd : ((m : Int).tdiv 128) = ((m / 128 : Nat) : Int) := tdivN m 128
    rw [varB_ge h3'] at h1 hlen
    simp only [List.length_cons] at hlen
    conv => whnf
    refine ⟨[UInt8.ofNat (m % 128 + 128)], enc_u8 (by rw [hm, w64] <;> omega) (by omega), ?_, ?_⟩
    · show l'.length + 1 ≤ 4294967296; omega
    conv => whnf
    refine ⟨m / 128, [(208, 0)], [(0, .sl 0 none), (1, .lf (.int .i64 (m / 128 : Nat)))], [(0, some (.row .own 1 encB (l' ++ [UInt8.ofNat (m % 128 + 128)])))], by omega, ⟨rfl, ⟨rfl, ?_, trivial⟩, ⟨rfl, trivial⟩⟩, _, _, ?_, ?_, rfl, rfl, rfl⟩
    · show V.lf (.int .i64 (IntKind.i64.wrap ((m : Int).tdiv 128))) = _
      rw [hd, w64] <;> omega
    · rw [h1]; simp
    · omega
  · have h3' : m < 128 := by simp at h3; omega
    rw [varB_lt h3'] at h1 hlen
    simp at hlen
    conv => whnf
    refine ⟨[UInt8.ofNat m], enc_u8 rfl (by omega), ?_, ?_⟩
    · show l'.length + 1 ≤ 4294967296; omega
    conv => whnf
    refine ⟨⟨rfl, ?_⟩⟩
    show _ = [[D.row 1 encB (l ++ varB n)]]
    rw [h1]; rfl
theorem vary_ok : FnOk Try.prog 143 cVary := fnOk_of fun x => fn_at tab_ok (SOk.nil) mixed (fn := Try.f143) (code := body Try.f143) ⟨Try.func143, rfl, by kernel_rfl, by kernel_rfl, by kernel_rfl, by kernel_rfl⟩ (ev_vary x)

structure TextX where
  l : List UInt8
  s : ByteArray
  hl : l.length ≤ 4000000000
  hs : s.size ≤ 100000000
def cText : Con := pureC TextX [(.take, false), (.rd, false)] [false] (fun x => [[.row 1 encB x.l], [.lf (.string x.s)]]) (fun x => [[.row 1 encB (x.l ++ encT x.s)]])
theorem ev_iText : ∀ x, evFn tab [(143, cVary)] cText Try.f98 (body Try.f98) x := by
  rintro ⟨l, s, hl, hs⟩
  conv => whnf
  refine ⟨⟨l, s.size, by omega, by omega⟩, rfl, ?_⟩
  rintro _ _ ⟨rfl, rfl⟩
  conv => whnf
  refine ⟨bs s, rfl, ?_, ?_⟩
  · show (l ++ varB s.size).length + (bs s).length ≤ 4294967296
    have := varB_len (n := s.size) (by omega)
    rw [bs_len, List.length_append]; omega
  conv => whnf
  refine ⟨⟨rfl, ?_⟩⟩
  show [[D.row 1 encB (l ++ varB s.size ++ bs s)]] = _
  simp [encT, List.append_assoc]
theorem iText_ok : FnOk Try.prog 98 cText := fnOk_of fun x => fn_at tab_ok (SOk.cons vary_ok SOk.nil) mixed (fn := Try.f98) (code := body Try.f98) ⟨Try.func98, rfl, by kernel_rfl, by kernel_rfl, by kernel_rfl, by kernel_rfl⟩ (ev_iText x)

structure IX where
  n : Int
  h1 : -9223372036854775808 ≤ n
  h2 : n ≤ 9223372036854775807
def numB (n : Int) : Bool := decide (0 ≤ n) && decide (n ≤ 1099511627775)
def cNum : Con := pureC IX [(.rd, false)] [false] (fun x => [[.lf (.int .i64 x.n)]]) (fun x => [[.lf (.bool (numB x.n))]])
theorem ev_l01Num : ∀ x, evFn tab [] cNum Try.f106 (body Try.f106) x := by
  rintro ⟨n, h1, h2⟩
  repeat' ((conv => whnf); refine br2 (fun h => ?_) (fun h => ?_))
  all_goals (conv => whnf)
  all_goals refine ⟨⟨rfl, ?_⟩⟩
  all_goals simp_all [numB] <;> omega
theorem l01Num_ok : FnOk Try.prog 106 cNum := fnOk_of fun x => fn_at tab_ok (SOk.nil) mixed (fn := Try.f106) (code := body Try.f106) ⟨Try.func106, rfl, by kernel_rfl, by kernel_rfl, by kernel_rfl, by kernel_rfl⟩ (ev_l01Num x)

structure PutX where
  l : List UInt8
  n : Int
  hl : l.length ≤ 4294967000
  h1 : -9223372036854775808 ≤ n
  h2 : n ≤ 9223372036854775807
def putB (l : List UInt8) (n : Int) : Bool := numB n && decide (l.length + (varB n.toNat).length ≤ 4096)
def putL (l : List UInt8) (n : Int) : List UInt8 := if putB l n then l ++ varB n.toNat else []
def cPutVar : Con := pureC PutX [(.rd, false), (.rd, false)] [false, false] (fun x => [[.row 1 encB x.l], [.lf (.int .i64 x.n)]]) (fun x => [[.row 1 encB (putL x.l x.n)], [.lf (.bool (putB x.l x.n))]])
theorem ev_putVar : ∀ x, evFn tab [(106, cNum)] cPutVar Try.f159 (body Try.f159) x := by
  rintro ⟨l, n, hl, h1, h2⟩
  conv => whnf
  refine ⟨⟨n, h1, h2⟩, rfl, ?_⟩
  rintro _ _ ⟨rfl, rfl⟩
  conv => whnf
  refine br2 (fun h3 => ?_) (fun h3 => ?_)
  · have h3' : numB n = false := by simpa using h3
    conv => whnf
    refine ⟨1, UInt8, encB, encB_len, ?_⟩
    conv => whnf
    refine ⟨⟨rfl, ?_⟩⟩
    show _ = [[D.row 1 encB (putL l n)], [D.lf (.bool (putB l n))]]
    simp [putL, putB, h3']
  · have h3' : numB n = true := by simpa using h3
    obtain ⟨h4, h5⟩ : 0 ≤ n ∧ n ≤ 1099511627775 := by simpa [numB] using h3'
    obtain ⟨k, rfl⟩ : ∃ k : Nat, n = k := ⟨n.toNat, by omega⟩
    conv => whnf
    refine ⟨true, ?_⟩
    conv => whnf
    refine ⟨UInt8, encB, [], encB_len, rfl, ?_⟩
    conv => whnf
    refine ⟨flat_encB, l, rfl, ?_, ?_⟩
    · show 0 + l.length ≤ 4294967296; omega
    conv => whnf
    refine ⟨fun m s h => ∃ (l' : List UInt8) (n' : Nat), l ++ varB k = l' ++ varB n' ∧ n' ≤ 1099511627775 ∧ m = n' ∧ s = [(6, .sl 0 none), (1, .lf (.int .i64 n')), (4, .lf (.slice none 0 0)), (5, .lf (.bool false))] ∧ h = [(0, some (.row .own 1 encB l'))],
      k, [(192, 0)], [(6, .sl 0 none), (1, .lf (.int .i64 k)), (4, .lf (.slice none 0 0)), (5, .lf (.bool false))], [(0, some (.row .own 1 encB l))], ⟨rfl, ⟨rfl, rfl, rfl, rfl, trivial⟩, ⟨rfl, trivial⟩⟩, ⟨l, k, rfl, by omega, rfl, rfl, rfl⟩, ?_⟩
    rintro m _ _ ⟨l', n', e1, e2, rfl, rfl, rfl⟩
    have hlen := congrArg List.length e1
    have hv := varB_len6 (n := k) (by omega)
    simp only [List.length_append] at hlen
    conv => whnf
    refine br2 (fun g3 => ?_) (fun g3 => ?_)
    · have g3' : ¬ m < 128 := by simp at g3; omega
      have hm : ((m : Int).tmod 128) = ((m % 128 : Nat) : Int) := tmodN m 128
      have hd : ((m : Int).tdiv 128) = ((m / 128 : Nat) : Int) := tdivN m 128
      rw [varB_ge g3'] at e1 hlen
      simp only [List.length_cons] at hlen
      conv => whnf
      refine ⟨[UInt8.ofNat (m % 128 + 128)], enc_u8 (by rw [hm, w64] <;> omega) (by omega), ?_, ?_⟩
      · show l'.length + 1 ≤ 4294967296; omega
      conv => whnf
      refine ⟨m / 128, [(336, 0)], [(6, .sl 0 none), (1, .lf (.int .i64 (m / 128 : Nat))), (4, .lf (.slice none 0 0)), (5, .lf (.bool false))], [(0, some (.row .own 1 encB (l' ++ [UInt8.ofNat (m % 128 + 128)])))], by omega, ⟨rfl, ⟨rfl, ?_, rfl, rfl, trivial⟩, ⟨rfl, trivial⟩⟩, _, _, ?_, ?_, rfl, rfl, rfl⟩
      · show V.lf (.int .i64 (IntKind.i64.wrap ((m : Int).tdiv 128))) = _
        rw [hd, w64] <;> omega
      · rw [e1]; simp
      · omega
    · have g3' : m < 128 := by simp at g3; omega
      rw [varB_lt g3'] at e1 hlen
      simp at hlen
      conv => whnf
      refine ⟨[UInt8.ofNat m], enc_u8 rfl (by omega), ?_, ?_⟩
      · show l'.length + 1 ≤ 4294967296; omega
      conv => whnf
      intro _
      conv => whnf
      have hL : (cutL none l' ++ [UInt8.ofNat m] : List UInt8) = l ++ varB k := e1.symm
      refine br2 (fun g4 => ?_) (fun g4 => ?_)
      · conv => whnf
        refine ⟨1, UInt8, encB, encB_len, ?_⟩
        conv => whnf
        refine ⟨⟨rfl, ?_⟩⟩
        rw [hL] at g4
        have : ¬ l.length + (varB k).length ≤ 4096 := by simp at g4; omega
        show _ = [[D.row 1 encB (putL l k)], [D.lf (.bool (putB l k))]]
        simp [putL, putB, this]
      · conv => whnf
        refine ⟨⟨rfl, ?_⟩⟩
        rw [hL] at g4
        have : l.length + (varB k).length ≤ 4096 := by simp at g4; omega
        show [[D.row 1 encB (cutL none (cutL none l' ++ [UInt8.ofNat m]))], _] = [[D.row 1 encB (putL l k)], [D.lf (.bool (putB l k))]]
        rw [hL]
        simp [putL, putB, this, h3', cutL]
theorem putVar_ok : FnOk Try.prog 159 cPutVar := fnOk_of fun x => fn_at tab_ok (SOk.cons l01Num_ok SOk.nil) mixed (fn := Try.f159) (code := body Try.f159) ⟨Try.func159, rfl, by kernel_rfl, by kernel_rfl, by kernel_rfl, by kernel_rfl⟩ (ev_putVar x)
end Go.Vm
namespace Go.Vm
open Go.Proofs
set_option maxRecDepth 100000
set_option linter.unusedVariables false
set_option linter.unusedSimpArgs false

structure PutTX where
  l : List UInt8
  s : ByteArray
  hl : l.length ≤ 4000000000
  hs : s.size ≤ 100000000
def putTB (l : List UInt8) (s : ByteArray) : Bool := decide (l.length + (encT s).length ≤ 4096)
def putTL (l : List UInt8) (s : ByteArray) : List UInt8 := if putTB l s then l ++ encT s else []
def cPutText : Con := pureC PutTX [(.rd, false), (.rd, false)] [false, false] (fun x => [[.row 1 encB x.l], [.lf (.string x.s)]]) (fun x => [[.row 1 encB (putTL x.l x.s)], [.lf (.bool (putTB x.l x.s))]])
theorem ev_sPutText : ∀ x, evFn tab [(159, cPutVar)] cPutText Try.f130 (body Try.f130) x := by
  rintro ⟨l, s, hl, hs⟩
  conv => whnf
  refine ⟨⟨l, s.size, by omega, by omega, by omega⟩, rfl, ?_⟩
  rintro _ _ ⟨rfl, rfl⟩
  have hT : (encT s).length = (varB s.size).length + s.size := by simp [encT, bs_len]
  have hn : numB (s.size : Int) = true := by simp [numB]; omega
  conv => whnf
  refine br2 (fun h3 => ?_) (fun h3 => ?_)
  · have h3' : putB l s.size = false := by simpa using h3
    conv => whnf
    refine ⟨1, UInt8, encB, encB_len, ?_⟩
    conv => whnf
    refine ⟨⟨rfl, ?_⟩⟩
    have : ¬ l.length + (varB s.size).length ≤ 4096 := by simpa [putB, hn] using h3'
    have h : putTB l s = false := by simp [putTB, hT]; omega
    show _ = [[D.row 1 encB (putTL l s)], [D.lf (.bool (putTB l s))]]
    simp [putTL, h]
  · have h3' : putB l s.size = true := by simpa using h3
    have h5 : l.length + (varB s.size).length ≤ 4096 := by simpa [putB, hn] using h3'
    have hL : putL l s.size = l ++ varB s.size := by simp [putL, h3']
    conv => whnf
    intro h6
    conv => whnf
    have hw : IntKind.i64.wrap (4096 - ((l ++ varB s.size).length : Int)) = 4096 - ((l ++ varB s.size).length : Int) := by simp only [List.length_append]; rw [w64] <;> omega
    refine br2 (fun h4 => ?_) (fun h4 => ?_)
    · conv => whnf
      refine ⟨1, UInt8, encB, encB_len, ?_⟩
      conv => whnf
      refine ⟨⟨rfl, ?_⟩⟩
      replace h4 : decide ((s.size : Int) > IntKind.i64.wrap (4096 - ((putL l s.size).length : Int))) = true := h4
      rw [hL, hw] at h4
      have h : putTB l s = false := by simp [putTB, hT]; simp at h4; omega
      show _ = [[D.row 1 encB (putTL l s)], [D.lf (.bool (putTB l s))]]
      simp [putTL, h]
    · conv => whnf
      replace h4 : decide ((s.size : Int) > IntKind.i64.wrap (4096 - ((putL l s.size).length : Int))) = false := h4
      rw [hL, hw] at h4
      have h : putTB l s = true := by simp [putTB, hT]; simp at h4; omega
      refine ⟨?_, ?_⟩
      · show s.size ≤ 4294967296; omega
      conv => whnf
      refine ⟨flat_encB, bs s, rfl, ?_, ?_⟩
      · show (putL l s.size).length + (bs s).length ≤ 4294967296
        rw [hL, bs_len, List.length_append]; omega
      conv => whnf
      refine ⟨⟨rfl, ?_⟩⟩
      show [[D.row 1 encB (putL l s.size ++ bs s)], _] = [[D.row 1 encB (putTL l s)], [D.lf (.bool (putTB l s))]]
      rw [hL]
      simp [putTL, h, encT, List.append_assoc]
theorem sPutText_ok : FnOk Try.prog 130 cPutText := fnOk_of fun x => fn_at tab_ok (SOk.cons putVar_ok SOk.nil) mixed (fn := Try.f130) (code := body Try.f130) ⟨Try.func130, rfl, by kernel_rfl, by kernel_rfl, by kernel_rfl, by kernel_rfl⟩ (ev_sPutText x)

/-! Numbers read -/
structure GetX where
  l : List UInt8
  a : Int
  hl : l.length ≤ 4294967296
  h1 : -9223372036854775808 ≤ a
  h2 : a ≤ 9223372036854775807
/-- What is read: a number and the place behind it; the number that stands there. -/
def GotN (l : List UInt8) (a n nx : Int) : Prop :=
  (nx = -1 ∧ n = 0 ∨ 0 ≤ n ∧ n ≤ 1099511627775 ∧ 0 ≤ a ∧ a < nx ∧ nx ≤ l.length) ∧
    ∀ (pre : List UInt8) (v : Nat) (post : List UInt8), l = pre ++ varB v ++ post → a = pre.length → v ≤ 1099511627775 → n = v ∧ nx = pre.length + (varB v).length
def cGetVar : Con := relC GetX [(.rd, false), (.rd, false)] [false, false] (fun x => [[.row 1 encB x.l], [.lf (.int .i64 x.a)]]) (fun x r => ∃ n nx : Int, r = [[.lf (.int .i64 n)], [.lf (.int .i64 nx)]] ∧ GotN x.l x.a n nx)

theorem gotN_none {l : List UInt8} {a : Int} (h : a < 0 ∨ (l.length : Int) ≤ a) : GotN l a 0 (-1) := by
  refine ⟨.inl ⟨rfl, rfl⟩, fun pre v post h1 h2 _ => ?_⟩
  have := congrArg List.length h1
  have := varB_pos v
  simp only [List.length_append] at *
  omega

/-- The digits so far: k of them, in sum n; what is left of the number that stands there. -/
structure Dig (l : List UInt8) (a : Nat) (k n : Nat) : Prop where
  lt : n < 128 ^ k
  rest : ∀ (pre : List UInt8) (v : Nat) (post : List UInt8), l = pre ++ varB v ++ post → a = pre.length → v ≤ 1099511627775 →
    ∃ v', l.drop (a + k) = varB v' ++ post ∧ v = n + 128 ^ k * v' ∧ (varB v).length = k + (varB v').length ∧ (1 ≤ k → 1 ≤ v')

theorem Dig.zero (l : List UInt8) (a : Nat) : Dig l a 0 0 := ⟨by simp, fun pre v post h1 h2 _ => ⟨v, by rw [h1, h2]; simp, by simp, by simp, by omega⟩⟩

theorem u8_lt (d : UInt8) : d.toNat < 256 := d.toNat_lt
theorem toNat_of {k : Nat} (h : k < 256) : (UInt8.ofNat k).toNat = k := by simp [UInt8.toNat_ofNat]; omega
theorem head_eq {x d : UInt8} {r : List UInt8} (h : (x :: r)[0]? = some d) : x = d := by simpa only [List.getElem?_cons_zero, Option.some.injEq] using h
theorem Dig.step {l : List UInt8} {a k n : Nat} (h : Dig l a k n) {d : UInt8} (hd : l[a + k]? = some d) (hge : 128 ≤ d.toNat) : Dig l a (k + 1) (n + d.toNat % 128 * 128 ^ k) := by
  refine ⟨?_, fun pre v post h1 h2 h3 => ?_⟩
  · have h4 := h.lt
    have h5 : d.toNat % 128 ≤ 127 := by omega
    have h6 : d.toNat % 128 * 128 ^ k ≤ 127 * 128 ^ k := Nat.mul_le_mul_right _ h5
    rw [Nat.pow_succ]; omega
  · obtain ⟨v', e1, e2, e3, e4⟩ := h.rest pre v post h1 h2 h3
    by_cases hv : v' < 128
    · exfalso
      rw [varB_lt hv] at e1
      have : (l.drop (a + k))[0]? = some d := by simpa using hd
      rw [e1] at this
      have := head_eq this
      subst this
      rw [toNat_of (by omega)] at hge
      omega
    · rw [varB_ge hv] at e1 e3
      have : (l.drop (a + k))[0]? = some d := by simpa using hd
      rw [e1] at this
      have := head_eq this
      subst this
      refine ⟨v' / 128, ?_, ?_, ?_, fun _ => by omega⟩
      · have := congrArg (List.drop 1) e1
        rw [List.drop_drop] at this
        simpa [Nat.add_assoc] using this
      · rw [toNat_of (by omega), e2, Nat.pow_succ]
        have h6 : (v' % 128 + 128) % 128 = v' % 128 := by omega
        rw [h6]
        have h7 : v' = v' % 128 + 128 * (v' / 128) := by omega
        calc n + 128 ^ k * v' = n + 128 ^ k * (v' % 128 + 128 * (v' / 128)) := by rw [← h7]
          _ = n + v' % 128 * 128 ^ k + 128 ^ k * 128 * (v' / 128) := by rw [Nat.mul_add, Nat.mul_comm (128 ^ k) (v' % 128), Nat.mul_assoc, Nat.add_assoc]
      · simp only [List.length_cons] at e3; omega
theorem Dig.last {l : List UInt8} {a k n : Nat} (h : Dig l a k n) {d : UInt8} (hd : l[a + k]? = some d) (hlt : d.toNat < 128) {pre : List UInt8} {v : Nat} {post : List UInt8} (h1 : l = pre ++ varB v ++ post) (h2 : a = pre.length) (h3 : v ≤ 1099511627775) :
    v = n + d.toNat * 128 ^ k ∧ (varB v).length = k + 1 ∧ (1 ≤ k → 1 ≤ d.toNat) := by
  obtain ⟨v', e1, e2, e3, e4⟩ := h.rest pre v post h1 h2 h3
  have h5 : (l.drop (a + k))[0]? = some d := by simpa using hd
  by_cases hv : v' < 128
  · rw [varB_lt hv] at e1 e3
    rw [e1] at h5
    have := head_eq h5
    subst this
    rw [toNat_of (by omega), Nat.mul_comm v']
    exact ⟨e2, e3, e4⟩
  · exfalso
    rw [varB_ge hv] at e1
    rw [e1] at h5
    have := head_eq h5
    subst this
    rw [toNat_of (by omega)] at hlt
    omega
theorem Dig.out {l : List UInt8} {a k n : Nat} (h : Dig l a k n) (hk : l.length ≤ a + k ∨ 6 ≤ k) (h0 : a + k ≤ l.length) : GotN l a 0 (-1) := by
  refine ⟨.inl ⟨rfl, rfl⟩, fun pre v post h1 h2 h3 => ?_⟩
  exfalso
  have h2' : a = pre.length := by omega
  obtain ⟨v', e1, e2, e3, e4⟩ := h.rest pre v post h1 h2' h3
  have h5 := varB_pos v'
  have h6 := varB_len6 h3
  have h7 := congrArg List.length e1
  simp only [List.length_append, List.length_drop] at h7
  omega

theorem pow_le6 {k : Nat} (h : k ≤ 6) : 128 ^ k ≤ 4398046511104 := Nat.le_trans (Nat.pow_le_pow_right (by omega) h) (by decide)
/-- The digits' number has so many digits just if the last one isn't nought. -/
theorem dig_len {n k d : Nat} (hn : n < 128 ^ k) (hd : d < 128) : (varB (n + d * 128 ^ k)).length = k + 1 ↔ (d ≠ 0 ∨ k = 0) := by
  have key : ∀ k n d, n < 128 ^ k → d < 128 → ((varB (n + d * 128 ^ k)).length = k + 1 ↔ (d ≠ 0 ∨ k = 0)) ∧ (varB (n + d * 128 ^ k)).length ≤ k + 1 := by
    intro k
    induction k with
    | zero =>
      intro n d hn hd
      have : n = 0 := by simpa using hn
      subst this
      rw [varB_lt (by omega)]; simp
    | succ k ih =>
      intro n d hn hd
      rw [Nat.pow_succ] at hn
      have h1 : n / 128 < 128 ^ k := Nat.div_lt_of_lt_mul (by omega)
      obtain ⟨i1, i2⟩ := ih (n / 128) d h1 hd
      have hdiv : (n + d * 128 ^ (k + 1)) / 128 = n / 128 + d * 128 ^ k := by
        rw [Nat.pow_succ, ← Nat.mul_assoc, Nat.add_mul_div_right _ _ (by omega : 0 < 128)]
      by_cases hlt : n + d * 128 ^ (k + 1) < 128
      · rw [varB_lt hlt]
        have : d = 0 := by
          rcases Nat.eq_zero_or_pos d with h | h
          · exact h
          · exfalso
            have : 128 ^ (k + 1) ≤ d * 128 ^ (k + 1) := Nat.le_mul_of_pos_left _ h
            have : 128 ≤ 128 ^ (k + 1) := by rw [Nat.pow_succ]; have : 128 ^ 0 ≤ 128 ^ k := Nat.pow_le_pow_right (by omega) (Nat.zero_le k); simp only [Nat.pow_zero] at this; omega
            omega
        subst this
        simp
      · rw [varB_ge hlt, hdiv]
        simp only [List.length_cons]
        constructor
        · rw [show (varB (n / 128 + d * 128 ^ k)).length + 1 = k + 1 + 1 ↔ (varB (n / 128 + d * 128 ^ k)).length = k + 1 by omega, i1]
          constructor
          · rintro (h | h)
            · exact .inl h
            · subst h
              have hn1 : n < 128 := by simpa using hn
              refine .inl fun h0 => hlt (by subst h0; simpa using hn1)
          · rintro (h | h)
            · exact .inl h
            · omega
        · omega
  exact (key k n d hn hd).1
end Go.Vm
namespace Go.Vm
open Go.Proofs
set_option maxRecDepth 100000
set_option linter.unusedVariables false
set_option linter.unusedSimpArgs false

theorem gotN_of {l : List UInt8} {a k n : Nat} (h : Dig l a k n) {d : UInt8} (hd : l[a + k]? = some d) (hlt : d.toNat < 128) (hm : n + d.toNat * 128 ^ k ≤ 1099511627775) : GotN l a ((n + d.toNat * 128 ^ k : Nat) : Int) ((a + k + 1 : Nat) : Int) := by
  have hl : a + k < l.length := (List.getElem?_eq_some_iff.1 hd).1
  refine ⟨.inr ⟨by omega, by omega, by omega, by omega, by omega⟩, fun pre v post h1 h2 h3 => ?_⟩
  obtain ⟨e1, e2, e3⟩ := h.last hd hlt h1 (by omega) h3
  omega
theorem gotN_bad {l : List UInt8} {a k n : Nat} (h : Dig l a k n) {d : UInt8} (hd : l[a + k]? = some d) (hlt : d.toNat < 128) (hm : ¬ n + d.toNat * 128 ^ k ≤ 1099511627775 ∨ (d.toNat = 0 ∧ 1 ≤ k)) : GotN l a 0 (-1) := by
  refine ⟨.inl ⟨rfl, rfl⟩, fun pre v post h1 h2 h3 => ?_⟩
  obtain ⟨e1, e2, e3⟩ := h.last hd hlt h1 (by omega) h3
  omega
theorem dig_bound {l : List UInt8} {a k n : Nat} (h : Dig l a k n) (hk : k ≤ 5) {d : Nat} (hd : d < 256) : 128 ^ k ≤ 34359738368 ∧ n < 34359738368 ∧ d % 128 * 128 ^ k ≤ 127 * 34359738368 := by
  have h1 : 128 ^ k ≤ 34359738368 := Nat.le_trans (Nat.pow_le_pow_right (by omega) hk) (by decide)
  have h2 := h.lt
  have h3 : d % 128 * 128 ^ k ≤ 127 * 34359738368 := Nat.mul_le_mul (by omega) h1
  exact ⟨h1, by omega, h3⟩

theorem ev_sGetVar : ∀ x, evFn tab [(159, cPutVar)] cGetVar Try.f129 (body Try.f129) x := by
  rintro ⟨l, a, hl, h1, h2⟩
  conv => whnf
  refine br2 (fun h3 => ?_) (fun h3 => ?_)
  · conv => whnf
    refine ⟨⟨rfl, 0, -1, rfl, gotN_none (.inl (by simpa using h3))⟩⟩
  conv => whnf
  intro h4
  conv => whnf
  refine br2 (fun h5 => ?_) (fun h5 => ?_)
  · conv => whnf
    refine ⟨⟨rfl, 0, -1, rfl, gotN_none (.inr (by simpa using h5))⟩⟩
  have h3' : 0 ≤ a := by simpa using h3
  have h5' : a < l.length := by simpa using h5
  obtain ⟨a, rfl⟩ : ∃ k : Nat, a = k := ⟨a.toNat, by omega⟩
  conv => whnf
  refine ⟨fun m s h => ∃ k n : Nat, Dig l a k n ∧ a + k ≤ l.length ∧ k ≤ 6 ∧ m = 6 - k ∧ s = [(0, .sl 0 none), (1, .lf (.int .i64 a)), (6, .lf (.int .i64 n)), (7, .lf (.int .i64 ((128 ^ k : Nat) : Int))), (8, .lf (.int .i64 ((a + k : Nat) : Int)))] ∧ h = [(0, some (.row .lent 1 encB l))],
    6, [(0, 0)], [(0, .sl 0 none), (1, .lf (.int .i64 a)), (6, .lf (.int .i64 0)), (7, .lf (.int .i64 1)), (8, .lf (.int .i64 a))], [(0, some (.row .lent 1 encB l))], ⟨rfl, ⟨rfl, rfl, rfl, rfl, rfl, trivial⟩, ⟨rfl, trivial⟩⟩, ⟨0, 0, Dig.zero l a, by omega, by omega, rfl, rfl, rfl⟩, ?_⟩
  rintro m _ _ ⟨k, n, hD, hk1, hk2, rfl, rfl, rfl⟩
  conv => whnf
  intro _
  conv => whnf
  refine br2 (fun g1 => ?_) (fun g1 => ?_)
  · conv => whnf
    refine br2 (fun g2 => ?_) (fun g2 => ?_)
    · have hk : a + k < l.length := by simp at g1; omega
      have hk5 : k ≤ 5 := by rw [w64] at g2 <;> first | omega | (simp at g2; omega)
      obtain ⟨d, hd⟩ : ∃ d, l[a + k]? = some d := ⟨_, List.getElem?_eq_getElem hk⟩
      have hd2 : nth l ((a + k : Nat) : Int).toNat = some d := by rw [nth_eq, Int.toNat_natCast]; exact hd
      have hd8 := u8_lt d
      obtain ⟨b1, b2, b3⟩ := dig_bound hD hk5 hd8
      have p1 : (0 : Int) ≤ ((128 ^ k : Nat) : Int) := Int.natCast_nonneg _
      have p2 : ((128 ^ k : Nat) : Int) ≤ 34359738368 := Int.ofNat_le.2 b1
      have hn1 : IntKind.i64.wrap ((n : Int) + IntKind.i64.wrap (((IntKind.i64.wrap (d.toNat : Int)).tmod 128) * ((128 ^ k : Nat) : Int))) = ((n + d.toNat % 128 * 128 ^ k : Nat) : Int) := by
        rw [w64 (n := (d.toNat : Int)) (by omega) (by omega), tmod128, ← Int.natCast_mul, w64 (n := ((d.toNat % 128 * 128 ^ k : Nat) : Int)) (by omega) (by omega), ← Int.natCast_add, w64 (by omega) (by omega)]
      conv => whnf
      refine ⟨by omega, by omega, ?_⟩
      conv => whnf
      refine ex2 d hd2 ?_
      conv => whnf
      refine ⟨by omega, by omega, ?_⟩
      conv => whnf
      refine ex2 d hd2 ?_
      conv => whnf
      refine br2 (fun g3 => ?_) (fun g3 => ?_)
      · have g3' : 128 ≤ d.toNat := by simp at g3; omega
        conv => whnf
        refine ⟨6 - (k + 1), [(0, 0)], [(0, .sl 0 none), (1, .lf (.int .i64 a)), (6, .lf (.int .i64 ((n + d.toNat % 128 * 128 ^ k : Nat) : Int))), (7, .lf (.int .i64 ((128 ^ (k + 1) : Nat) : Int))), (8, .lf (.int .i64 ((a + (k + 1) : Nat) : Int)))], [(0, some (.row .lent 1 encB l))], by omega, ⟨rfl, ⟨rfl, rfl, ?_, ?_, ?_, trivial⟩, ⟨rfl, trivial⟩⟩, k + 1, _, hD.step hd g3', by omega, by omega, rfl, rfl, rfl⟩
        · show V.lf (.int .i64 (IntKind.i64.wrap ((n : Int) + IntKind.i64.wrap (((IntKind.i64.wrap (d.toNat : Int)).tmod 128) * ((128 ^ k : Nat) : Int))))) = _
          rw [hn1]
        · show V.lf (.int .i64 (IntKind.i64.wrap (((128 ^ k : Nat) : Int) * 128))) = _
          rw [w64 (by omega) (by omega), Nat.pow_succ]; rfl
        · show V.lf (.int .i64 (IntKind.i64.wrap (((a + k : Nat) : Int) + 1))) = _
          rw [w64 (by omega) (by omega)]; rfl
      · have g3' : d.toNat < 128 := by simp at g3; omega
        have hm : d.toNat % 128 = d.toNat := Nat.mod_eq_of_lt g3'
        rw [hm] at hn1 b3
        conv => whnf
        refine ⟨1, UInt8, encB, encB_len, ?_⟩
        conv => whnf
        refine ⟨⟨[], ((n + d.toNat * 128 ^ k : Nat) : Int), by simp, by omega, by omega⟩, ?_, ?_⟩
        · show [[D.row 1 encB []], [D.lf (.int .i64 _)]] = [[D.row 1 encB []], [D.lf (.int .i64 _)]]
          rw [hn1]
        rintro _ _ ⟨rfl, rfl⟩
        have hN : numB ((n + d.toNat * 128 ^ k : Nat) : Int) = decide (n + d.toNat * 128 ^ k ≤ 1099511627775) := by
          simp only [numB]
          rw [show decide ((0 : Int) ≤ ((n + d.toNat * 128 ^ k : Nat) : Int)) = true from decide_eq_true (by omega), Bool.true_and]
          exact decide_eq_decide.2 (by omega)
        have hlen := dig_len hD.lt g3'
        have hle : (varB (n + d.toNat * 128 ^ k)).length ≤ 10 := varB_len (by omega)
        have hP : putB [] ((n + d.toNat * 128 ^ k : Nat) : Int) = decide (n + d.toNat * 128 ^ k ≤ 1099511627775) := by
          unfold putB
          rw [hN, Int.toNat_natCast, show decide (([] : List UInt8).length + (varB (n + d.toNat * 128 ^ k)).length ≤ 4096) = true from decide_eq_true (by simp; omega), Bool.and_true]
        conv => whnf
        refine br2 (fun g4 => ?_) (fun g4 => ?_)
        · conv => whnf
          replace g4 : (!putB [] ((n + d.toNat * 128 ^ k : Nat) : Int)) = true := g4
          rw [hP] at g4
          refine ⟨⟨rfl, 0, -1, rfl, gotN_bad hD hd g3' (.inl (by simpa using g4))⟩⟩
        · replace g4 : (!putB [] ((n + d.toNat * 128 ^ k : Nat) : Int)) = false := g4
          rw [hP] at g4
          have g4' : n + d.toNat * 128 ^ k ≤ 1099511627775 := by simpa using g4
          have hL : putL [] ((n + d.toNat * 128 ^ k : Nat) : Int) = varB (n + d.toNat * 128 ^ k) := by unfold putL; rw [if_pos (by rw [hP]; exact decide_eq_true g4'), Int.toNat_natCast]; rfl
          have hi : IntKind.i64.wrap (((a + k : Nat) : Int) + 1) = ((a + k + 1 : Nat) : Int) := by rw [w64 (by omega) (by omega)]; rfl
          have hw : IntKind.i64.wrap (IntKind.i64.wrap (((a + k : Nat) : Int) + 1) - (a : Int)) = ((k + 1 : Nat) : Int) := by rw [hi, w64 (by omega) (by omega)]; omega
          conv => whnf
          intro _
          conv => whnf
          refine br2 (fun g5 => ?_) (fun g5 => ?_)
          · replace g5 : (((putL [] ((n + d.toNat * 128 ^ k : Nat) : Int)).length : Int) != IntKind.i64.wrap (IntKind.i64.wrap (((a + k : Nat) : Int) + 1) - (a : Int))) = true := g5
            rw [hL, hw] at g5
            have g5' : (varB (n + d.toNat * 128 ^ k)).length ≠ k + 1 := by intro h; rw [h] at g5; simp at g5
            conv => whnf
            refine ⟨⟨rfl, 0, -1, rfl, gotN_bad hD hd g3' (.inr ?_)⟩⟩
            rw [Ne, hlen] at g5'
            omega
          · conv => whnf
            refine ⟨⟨rfl, _, _, ?_, gotN_of hD hd g3' g4'⟩⟩
            show [[D.lf (.int .i64 (IntKind.i64.wrap ((n : Int) + IntKind.i64.wrap (((IntKind.i64.wrap (d.toNat : Int)).tmod 128) * ((128 ^ k : Nat) : Int)))))], [D.lf (.int .i64 (IntKind.i64.wrap (((a + k : Nat) : Int) + 1)))]] = _
            rw [hn1, hi]
    · conv => whnf
      refine ⟨⟨rfl, 0, -1, rfl, hD.out (.inr ?_) hk1⟩⟩
      rw [w64 (by omega) (by omega)] at g2
      simp at g2; omega
  · conv => whnf
    refine ⟨⟨rfl, 0, -1, rfl, hD.out (.inl ?_) hk1⟩⟩
    simp at g1; omega
theorem sGetVar_ok : FnOk Try.prog 129 cGetVar := fnOk_of fun x => fn_at tab_ok (SOk.cons putVar_ok SOk.nil) mixed (fn := Try.f129) (code := body Try.f129) ⟨Try.func129, rfl, by kernel_rfl, by kernel_rfl, by kernel_rfl, by kernel_rfl⟩ (ev_sGetVar x)
end Go.Vm
namespace Go.Vm
open Go.Proofs
set_option maxRecDepth 100000
set_option linter.unusedVariables false
set_option linter.unusedSimpArgs false

theorem ev_iGetVar : ∀ x, evFn tab [] cGetVar Try.f160 (body Try.f160) x := by
  rintro ⟨l, a, hl, h1, h2⟩
  conv => whnf
  refine br2 (fun h3 => ?_) (fun h3 => ?_)
  · conv => whnf
    refine ⟨⟨rfl, 0, -1, rfl, gotN_none (.inl (by simpa using h3))⟩⟩
  have h3' : 0 ≤ a := by simpa using h3
  obtain ⟨a, rfl⟩ : ∃ k : Nat, a = k := ⟨a.toNat, by omega⟩
  conv => whnf
  refine ⟨fun m s h => ∃ k n : Nat, Dig l a k n ∧ (a + k ≤ l.length ∨ k = 0) ∧ k ≤ 6 ∧ m = 6 - k ∧ s = [(0, .sl 0 none), (1, .lf (.int .i64 a)), (6, .lf (.int .i64 n)), (7, .lf (.int .i64 ((128 ^ k : Nat) : Int))), (8, .lf (.int .i64 ((a + k : Nat) : Int)))] ∧ h = [(0, some (.row .lent 1 encB l))],
    6, [(0, 0)], [(0, .sl 0 none), (1, .lf (.int .i64 a)), (6, .lf (.int .i64 0)), (7, .lf (.int .i64 1)), (8, .lf (.int .i64 a))], [(0, some (.row .lent 1 encB l))], ⟨rfl, ⟨rfl, rfl, rfl, rfl, rfl, trivial⟩, ⟨rfl, trivial⟩⟩, ⟨0, 0, Dig.zero l a, by omega, by omega, rfl, rfl, rfl⟩, ?_⟩
  rintro m _ _ ⟨k, n, hD, hk1, hk2, rfl, rfl, rfl⟩
  conv => whnf
  intro _
  conv => whnf
  refine br2 (fun g1 => ?_) (fun g1 => ?_)
  · have hk : a + k < l.length := by simp at g1; omega
    have hw : IntKind.i64.wrap (((a + k : Nat) : Int) - (a : Int)) = (k : Int) := by rw [w64 (by omega) (by omega)]; omega
    conv => whnf
    refine br2 (fun g2 => ?_) (fun g2 => ?_)
    · have hk5 : k ≤ 5 := by rw [hw] at g2; simp at g2; omega
      obtain ⟨d, hd⟩ : ∃ d, l[a + k]? = some d := ⟨_, List.getElem?_eq_getElem hk⟩
      have hd2 : nth l ((a + k : Nat) : Int).toNat = some d := by rw [nth_eq, Int.toNat_natCast]; exact hd
      have hd8 := u8_lt d
      obtain ⟨b1, b2, b3⟩ := dig_bound hD hk5 hd8
      have p1 : (0 : Int) ≤ ((128 ^ k : Nat) : Int) := Int.natCast_nonneg _
      have p2 : ((128 ^ k : Nat) : Int) ≤ 34359738368 := Int.ofNat_le.2 b1
      have hdw : IntKind.i64.wrap (d.toNat : Int) = (d.toNat : Int) := w64 (by omega) (by omega)
      have hn1 : IntKind.i64.wrap ((n : Int) + IntKind.i64.wrap (((IntKind.i64.wrap (d.toNat : Int)).tmod 128) * ((128 ^ k : Nat) : Int))) = ((n + d.toNat % 128 * 128 ^ k : Nat) : Int) := by
        rw [hdw, tmod128, ← Int.natCast_mul, w64 (n := ((d.toNat % 128 * 128 ^ k : Nat) : Int)) (by omega) (by omega), ← Int.natCast_add, w64 (by omega) (by omega)]
      have hi : IntKind.i64.wrap (((a + k : Nat) : Int) + 1) = ((a + k + 1 : Nat) : Int) := by rw [w64 (by omega) (by omega)]; rfl
      conv => whnf
      refine ⟨by omega, by omega, ?_⟩
      conv => whnf
      refine ex2 d hd2 ?_
      conv => whnf
      refine br2 (fun g3 => ?_) (fun g3 => ?_)
      · have g3' : 128 ≤ d.toNat := by rw [hdw] at g3; simp at g3; omega
        conv => whnf
        refine ⟨6 - (k + 1), [(0, 0)], [(0, .sl 0 none), (1, .lf (.int .i64 a)), (6, .lf (.int .i64 ((n + d.toNat % 128 * 128 ^ k : Nat) : Int))), (7, .lf (.int .i64 ((128 ^ (k + 1) : Nat) : Int))), (8, .lf (.int .i64 ((a + (k + 1) : Nat) : Int)))], [(0, some (.row .lent 1 encB l))], by omega, ⟨rfl, ⟨rfl, rfl, ?_, ?_, ?_, trivial⟩, ⟨rfl, trivial⟩⟩, k + 1, _, hD.step hd g3', by omega, by omega, rfl, rfl, rfl⟩
        · show V.lf (.int .i64 (IntKind.i64.wrap ((n : Int) + IntKind.i64.wrap (((IntKind.i64.wrap (d.toNat : Int)).tmod 128) * ((128 ^ k : Nat) : Int))))) = _
          rw [hn1]
        · show V.lf (.int .i64 (IntKind.i64.wrap (((128 ^ k : Nat) : Int) * 128))) = _
          rw [w64 (by omega) (by omega), Nat.pow_succ]; rfl
        · show V.lf (.int .i64 (IntKind.i64.wrap (((a + k : Nat) : Int) + 1))) = _
          rw [hi]; rfl
      · have g3' : d.toNat < 128 := by rw [hdw] at g3; simp at g3; omega
        have hm : d.toNat % 128 = d.toNat := Nat.mod_eq_of_lt g3'
        rw [hm] at hn1 b3
        conv => whnf
        refine br2 (fun g4 => ?_) (fun g4 => ?_)
        · replace g4 : decide (IntKind.i64.wrap ((n : Int) + IntKind.i64.wrap (((IntKind.i64.wrap (d.toNat : Int)).tmod 128) * ((128 ^ k : Nat) : Int))) > 1099511627775) = true := g4
          rw [hn1] at g4
          conv => whnf
          exact ⟨⟨rfl, 0, -1, rfl, gotN_bad hD hd g3' (.inl (by have := of_decide_eq_true g4; omega))⟩⟩
        · replace g4 : decide (IntKind.i64.wrap ((n : Int) + IntKind.i64.wrap (((IntKind.i64.wrap (d.toNat : Int)).tmod 128) * ((128 ^ k : Nat) : Int))) > 1099511627775) = false := g4
          rw [hn1] at g4
          have g4' : n + d.toNat * 128 ^ k ≤ 1099511627775 := by have := of_decide_eq_false g4; omega
          have done : GotN l a ((n + d.toNat * 128 ^ k : Nat) : Int) ((a + k + 1 : Nat) : Int) := gotN_of hD hd g3' g4'
          conv => whnf
          refine br2 (fun g5 => ?_) (fun g5 => ?_)
          · replace g5 : (IntKind.i64.wrap (d.toNat : Int) == 0) = true := g5
            rw [hdw] at g5
            have g5' : d.toNat = 0 := by have := eq_of_beq g5; omega
            conv => whnf
            refine br2 (fun g6 => ?_) (fun g6 => ?_)
            · conv => whnf
              exact ⟨⟨rfl, 0, -1, rfl, gotN_bad hD hd g3' (.inr ⟨g5', by have := of_decide_eq_true g6; omega⟩)⟩⟩
            · conv => whnf
              refine ⟨⟨rfl, _, _, ?_, done⟩⟩
              show [[D.lf (.int .i64 (IntKind.i64.wrap ((n : Int) + IntKind.i64.wrap (((IntKind.i64.wrap (d.toNat : Int)).tmod 128) * ((128 ^ k : Nat) : Int)))))], [D.lf (.int .i64 (IntKind.i64.wrap (((a + k : Nat) : Int) + 1)))]] = _
              rw [hn1, hi]
          · conv => whnf
            refine ⟨⟨rfl, _, _, ?_, done⟩⟩
            show [[D.lf (.int .i64 (IntKind.i64.wrap ((n : Int) + IntKind.i64.wrap (((IntKind.i64.wrap (d.toNat : Int)).tmod 128) * ((128 ^ k : Nat) : Int)))))], [D.lf (.int .i64 (IntKind.i64.wrap (((a + k : Nat) : Int) + 1)))]] = _
            rw [hn1, hi]
    · conv => whnf
      refine ⟨⟨rfl, 0, -1, rfl, hD.out (.inr ?_) (by omega)⟩⟩
      rw [hw] at g2
      simp at g2; omega
  · conv => whnf
    have g1' : l.length ≤ a + k := by simp at g1; omega
    rcases hk1 with hk1 | hk1
    · exact ⟨⟨rfl, 0, -1, rfl, hD.out (.inl g1') hk1⟩⟩
    · exact ⟨⟨rfl, 0, -1, rfl, (show GotN l a 0 (-1) from gotN_none (.inr (by omega)))⟩⟩
theorem iGetVar_ok : FnOk Try.prog 160 cGetVar := fnOk_of fun x => fn_at tab_ok (SOk.nil) mixed (fn := Try.f160) (code := body Try.f160) ⟨Try.func160, rfl, by kernel_rfl, by kernel_rfl, by kernel_rfl, by kernel_rfl⟩ (ev_iGetVar x)

/-- What is read: a text and the place behind it; the text that stands there. -/
def GotT (l : List UInt8) (a : Int) (t : ByteArray) (nx : Int) : Prop :=
  (nx = -1 ∧ t = ⟨#[]⟩ ∨ 0 ≤ a ∧ a < nx ∧ nx ≤ l.length ∧ t.size ≤ l.length) ∧
    ∀ (pre : List UInt8) (u : ByteArray) (post : List UInt8), l = pre ++ encT u ++ post → a = pre.length → u.size ≤ 1099511627775 → t = u ∧ nx = pre.length + (encT u).length
def cGetText : Con := relC GetX [(.rd, false), (.rd, false)] [false, false] (fun x => [[.row 1 encB x.l], [.lf (.int .i64 x.a)]]) (fun x r => ∃ (t : ByteArray) (nx : Int), r = [[.lf (.string t)], [.lf (.int .i64 nx)]] ∧ GotT x.l x.a t nx)

theorem gotT_none {l : List UInt8} {a n nx : Int} (h : GotN l a n nx) (hb : nx < 0 ∨ (l.length : Int) - nx < n) : GotT l a ⟨#[]⟩ (-1) := by
  refine ⟨.inl ⟨rfl, rfl⟩, fun pre u post h1 h2 h3 => ?_⟩
  obtain ⟨e1, e2⟩ := h.2 pre u.size (bs u ++ post) (by rw [h1]; simp [encT]) h2 h3
  have := congrArg List.length h1
  simp only [List.length_append, encT, bs_len] at this
  omega
theorem gotT_of {l : List UInt8} {a : Int} {n nx : Nat} (h : GotN l a n nx) (hb : nx + n ≤ l.length) : GotT l a (ofB ((l.drop nx).take n)) ((nx + n : Nat) : Int) := by
  have h0 := h.1
  refine ⟨.inr ⟨by omega, by omega, by omega, by rw [of_size, List.length_take, List.length_drop]; omega⟩, fun pre u post h1 h2 h3 => ?_⟩
  obtain ⟨e1, e2⟩ := h.2 pre u.size (bs u ++ post) (by rw [h1]; simp [encT]) h2 h3
  have hn : n = u.size := by omega
  have hnx : nx = pre.length + (varB u.size).length := by omega
  refine ⟨?_, by simp only [encT, List.length_append, bs_len]; omega⟩
  have : (l.drop nx).take n = bs u := by
    rw [h1, hnx, hn, ← List.length_append]
    have : pre ++ encT u ++ post = (pre ++ varB u.size) ++ (bs u ++ post) := by simp [encT]
    rw [this, List.drop_left, ← bs_len, List.take_left]
  rw [this, of_bs]

theorem ev_sGetText : ∀ x, evFn tab [(129, cGetVar)] cGetText Try.f77 (body Try.f77) x := by
  rintro ⟨l, a, hl, h1, h2⟩
  conv => whnf
  refine ⟨⟨l, a, hl, h1, h2⟩, rfl, ?_⟩
  rintro _ _ ⟨rfl, n, nx, rfl, hG⟩
  have hG0 : nx = -1 ∧ n = 0 ∨ 0 ≤ n ∧ n ≤ 1099511627775 ∧ 0 ≤ a ∧ a < nx ∧ nx ≤ l.length := hG.1
  conv => whnf
  refine br2 (fun h3 => ?_) (fun h3 => ?_)
  · conv => whnf
    exact ⟨⟨rfl, ⟨#[]⟩, -1, rfl, gotT_none hG (.inl (of_decide_eq_true h3))⟩⟩
  have h3' : 0 ≤ nx := by have := of_decide_eq_false h3; omega
  conv => whnf
  intro _
  have hw : IntKind.i64.wrap ((l.length : Int) - nx) = (l.length : Int) - nx := w64 (by omega) (by omega)
  conv => whnf
  refine br2 (fun h4 => ?_) (fun h4 => ?_)
  · replace h4 : decide (n > IntKind.i64.wrap ((l.length : Int) - nx)) = true := h4
    rw [hw] at h4
    conv => whnf
    exact ⟨⟨rfl, ⟨#[]⟩, -1, rfl, gotT_none hG (.inr (by have := of_decide_eq_true h4; omega))⟩⟩
  replace h4 : decide (n > IntKind.i64.wrap ((l.length : Int) - nx)) = false := h4
  rw [hw] at h4
  have h4' : nx + n ≤ l.length := by have := of_decide_eq_false h4; omega
  have hw2 : IntKind.i64.wrap (nx + n) = nx + n := w64 (by omega) (by omega)
  obtain ⟨n, rfl⟩ : ∃ k : Nat, n = k := ⟨n.toNat, by omega⟩
  obtain ⟨nx, rfl⟩ : ∃ k : Nat, nx = k := ⟨nx.toNat, by omega⟩
  conv => whnf
  refine ⟨Int.natCast_nonneg _, by rw [hw2]; omega, by rw [hw2]; exact h4', ?_⟩
  conv => whnf
  refine ⟨(l.drop nx).take n, ?_, ?_⟩
  · show List.map encB ((l.drop (nx : Int).toNat).take (IntKind.i64.wrap ((nx : Int) + n) - nx).toNat) = _
    rw [hw2, Int.toNat_natCast, show ((nx : Int) + n - nx).toNat = n by omega]
  conv => whnf
  refine ⟨⟨rfl, _, _, ?_, gotT_of hG (show nx + n ≤ l.length by omega)⟩⟩
  show [[D.lf (.string _)], [D.lf (.int .i64 (IntKind.i64.wrap ((nx : Int) + n)))]] = _
  rw [hw2]; rfl
theorem sGetText_ok : FnOk Try.prog 77 cGetText := fnOk_of fun x => fn_at tab_ok (SOk.cons sGetVar_ok SOk.nil) mixed (fn := Try.f77) (code := body Try.f77) ⟨Try.func77, rfl, by kernel_rfl, by kernel_rfl, by kernel_rfl, by kernel_rfl⟩ (ev_sGetText x)
theorem ev_iGetText : ∀ x, evFn tab [(160, cGetVar)] cGetText Try.f131 (body Try.f131) x := by
  rintro ⟨l, a, hl, h1, h2⟩
  conv => whnf
  refine ⟨⟨l, a, hl, h1, h2⟩, rfl, ?_⟩
  rintro _ _ ⟨rfl, n, nx, rfl, hG⟩
  have hG0 : nx = -1 ∧ n = 0 ∨ 0 ≤ n ∧ n ≤ 1099511627775 ∧ 0 ≤ a ∧ a < nx ∧ nx ≤ l.length := hG.1
  conv => whnf
  refine br2 (fun h3 => ?_) (fun h3 => ?_)
  · conv => whnf
    exact ⟨⟨rfl, ⟨#[]⟩, -1, rfl, gotT_none hG (.inl (of_decide_eq_true h3))⟩⟩
  have h3' : 0 ≤ nx := by have := of_decide_eq_false h3; omega
  conv => whnf
  intro _
  have hw : IntKind.i64.wrap ((l.length : Int) - nx) = (l.length : Int) - nx := w64 (by omega) (by omega)
  conv => whnf
  refine br2 (fun h4 => ?_) (fun h4 => ?_)
  · replace h4 : decide (n > IntKind.i64.wrap ((l.length : Int) - nx)) = true := h4
    rw [hw] at h4
    conv => whnf
    exact ⟨⟨rfl, ⟨#[]⟩, -1, rfl, gotT_none hG (.inr (by have := of_decide_eq_true h4; omega))⟩⟩
  replace h4 : decide (n > IntKind.i64.wrap ((l.length : Int) - nx)) = false := h4
  rw [hw] at h4
  have h4' : nx + n ≤ l.length := by have := of_decide_eq_false h4; omega
  have hw2 : IntKind.i64.wrap (nx + n) = nx + n := w64 (by omega) (by omega)
  obtain ⟨n, rfl⟩ : ∃ k : Nat, n = k := ⟨n.toNat, by omega⟩
  obtain ⟨nx, rfl⟩ : ∃ k : Nat, nx = k := ⟨nx.toNat, by omega⟩
  conv => whnf
  refine ⟨Int.natCast_nonneg _, by rw [hw2]; omega, by rw [hw2]; exact h4', ?_⟩
  conv => whnf
  refine ⟨(l.drop nx).take n, ?_, ?_⟩
  · show List.map encB ((l.drop (nx : Int).toNat).take (IntKind.i64.wrap ((nx : Int) + n) - nx).toNat) = _
    rw [hw2, Int.toNat_natCast, show ((nx : Int) + n - nx).toNat = n by omega]
  conv => whnf
  refine ⟨⟨rfl, _, _, ?_, gotT_of hG (show nx + n ≤ l.length by omega)⟩⟩
  show [[D.lf (.string _)], [D.lf (.int .i64 (IntKind.i64.wrap ((nx : Int) + n)))]] = _
  rw [hw2]; rfl
theorem iGetText_ok : FnOk Try.prog 131 cGetText := fnOk_of fun x => fn_at tab_ok (SOk.cons iGetVar_ok SOk.nil) mixed (fn := Try.f131) (code := body Try.f131) ⟨Try.func131, rfl, by kernel_rfl, by kernel_rfl, by kernel_rfl, by kernel_rfl⟩ (ev_iGetText x)
end Go.Vm
namespace Go.Vm
open Go.Proofs
set_option maxRecDepth 100000
set_option linter.unusedVariables false
set_option linter.unusedSimpArgs false

/-! The order of texts -/
theorem bl_flip : ∀ a b : List UInt8, Op.bytesLess b a = !(Op.bytesLess a b || a == b)
  | [], [] => rfl
  | [], _ :: _ => by simp [Op.bytesLess]
  | _ :: _, [] => by simp [Op.bytesLess]
  | a :: x, b :: y => by
    have ih := bl_flip x y
    simp only [Op.bytesLess]
    rcases Nat.lt_trichotomy a.toNat b.toNat with h | h | h
    · have h1 : a < b := UInt8.lt_iff_toNat_lt.mpr h
      have h2 : ¬ b < a := fun e => by have := UInt8.lt_iff_toNat_lt.mp e; omega
      have h3 : a ≠ b := fun e => by subst e; omega
      simp [h1, h2, h3, Ne.symm h3]
    · have h1 : a = b := UInt8.toNat_inj.mp h
      subst h1
      have h2 : ¬ a < a := fun e => by have := UInt8.lt_iff_toNat_lt.mp e; omega
      simp only [h2, decide_false, Bool.false_or, beq_self_eq_true, Bool.true_and, ih, List.cons_beq_cons]
    · have h1 : b < a := UInt8.lt_iff_toNat_lt.mpr h
      have h2 : ¬ a < b := fun e => by have := UInt8.lt_iff_toNat_lt.mp e; omega
      have h3 : a ≠ b := fun e => by subst e; omega
      simp [h1, h2, h3]
theorem toList_inj {a b : ByteArray} (h : a.toList = b.toList) : a = b := by
  rw [ByteArray.toList_eq, ByteArray.toList_eq] at h
  obtain ⟨⟨x⟩⟩ := a
  obtain ⟨⟨y⟩⟩ := b
  simpa using h
theorem strEq_iff {a b : ByteArray} : strEq a b = true ↔ a = b := by
  unfold strEq
  rw [beq_iff_eq]
  exact ⟨toList_inj, fun h => by rw [h]⟩
theorem strEq_no {a b : ByteArray} : strEq a b = false ↔ a ≠ b := by
  rw [Ne, ← strEq_iff]; cases strEq a b <;> simp
theorem strEq_refl (a : ByteArray) : strEq a a = true := strEq_iff.2 rfl
theorem strEq_comm (a b : ByteArray) : strEq a b = strEq b a := by
  cases h : strEq a b with
  | true => rw [strEq_iff.1 h, strEq_refl]
  | false => exact (strEq_no.2 (Ne.symm (strEq_no.1 h))).symm
theorem strLt_flip (a b : ByteArray) : strLt b a = !(strLt a b || strEq a b) := bl_flip _ _
theorem strLt_gtr (a b : ByteArray) : (!(strLt b a || strEq b a)) = strLt a b := (strLt_flip b a).symm

def emp (s : ByteArray) : Bool := strEq s ⟨#[]⟩
theorem emp_iff {s : ByteArray} : emp s = true ↔ s = ⟨#[]⟩ := strEq_iff
theorem emp_no {s : ByteArray} : emp s = false ↔ s ≠ ⟨#[]⟩ := strEq_no

def userOkB (s : ByteArray) : Bool := decide (1 ≤ s.size) && decide (s.size ≤ 8)
def uvalOkB (s : ByteArray) : Bool := decide (s.size ≤ 20)
def keyOkB (s : ByteArray) : Bool := decide (1 ≤ s.size) && decide (s.size ≤ 16)
def rangeOkB (a b : ByteArray) : Bool := decide (a.size ≤ 17) && decide (b.size ≤ 17) && (emp b || strLt a b)
def reachOkB (a b : ByteArray) : Bool := rangeOkB a b && decide (a.size ≤ 9) && decide (b.size ≤ 9)

/-- A test of one text; of two in a struct. -/
def cS1 (f : ByteArray → Bool) : Con := pureC ByteArray [(.rd, false)] [false] (fun k => [[.lf (.string k)]]) (fun k => [[.lf (.bool (f k))]])
def cS2 (f : ByteArray → ByteArray → Bool) : Con := pureC (ByteArray × ByteArray) [(.rd, true)] [false] (fun k => [[.lf (.string k.1), .lf (.string k.2)]]) (fun k => [[.lf (.bool (f k.1 k.2))]])
def cUserOk : Con := cS1 userOkB
def cUvalOk : Con := cS1 uvalOkB
def cKeyOk : Con := cS1 keyOkB
def cRangeOk : Con := cS2 rangeOkB
def cReachOk : Con := cS2 reachOkB
structure WithinX where
  a : Int
  b : Int
  c : Int
def cWithin : Con := pureC WithinX [(.rd, false), (.rd, false), (.rd, false)] [false] (fun x => [[.lf (.int .i64 x.a)], [.lf (.int .i64 x.b)], [.lf (.int .i64 x.c)]]) (fun x => [[.lf (.bool (decide (x.b ≤ x.a) && decide (x.a ≤ x.c)))]])

theorem ev_sUserOk : ∀ x, evFn tab [] cUserOk Try.f99 (body Try.f99) x := by
  intro k
  repeat' ((conv => whnf); refine br2 (fun h => ?_) (fun h => ?_))
  all_goals (conv => whnf)
  all_goals refine ⟨⟨rfl, ?_⟩⟩
  · show _ = [[D.lf (.bool (userOkB k))]]
    have h1 := of_decide_eq_true h
    unfold userOkB
    rw [show decide (1 ≤ k.size) = true from decide_eq_true (by omega), Bool.true_and]
    congr 4
    exact decide_eq_decide.2 (by omega)
  · show _ = [[D.lf (.bool (userOkB k))]]
    have h1 := of_decide_eq_false h
    unfold userOkB
    rw [show decide (1 ≤ k.size) = false from decide_eq_false (by omega), Bool.false_and]
theorem sUserOk_ok : FnOk Try.prog 99 cUserOk := fnOk_of fun x => fn_at tab_ok (SOk.nil) mixed (fn := Try.f99) (code := body Try.f99) ⟨Try.func99, rfl, by kernel_rfl, by kernel_rfl, by kernel_rfl, by kernel_rfl⟩ (ev_sUserOk x)
theorem ev_sUvalOk : ∀ x, evFn tab [] cUvalOk Try.f100 (body Try.f100) x := by
  intro k
  conv => whnf
  refine ⟨⟨rfl, ?_⟩⟩
  show _ = [[D.lf (.bool (uvalOkB k))]]
  unfold uvalOkB
  congr 4
  exact decide_eq_decide.2 (by omega)
theorem sUvalOk_ok : FnOk Try.prog 100 cUvalOk := fnOk_of fun x => fn_at tab_ok (SOk.nil) mixed (fn := Try.f100) (code := body Try.f100) ⟨Try.func100, rfl, by kernel_rfl, by kernel_rfl, by kernel_rfl, by kernel_rfl⟩ (ev_sUvalOk x)
theorem ev_iUvalOk : ∀ x, evFn tab [] cUvalOk Try.f127 (body Try.f127) x := by
  intro k
  conv => whnf
  refine ⟨⟨rfl, ?_⟩⟩
  show _ = [[D.lf (.bool (uvalOkB k))]]
  unfold uvalOkB
  congr 4
  exact decide_eq_decide.2 (by omega)
theorem iUvalOk_ok : FnOk Try.prog 127 cUvalOk := fnOk_of fun x => fn_at tab_ok (SOk.nil) mixed (fn := Try.f127) (code := body Try.f127) ⟨Try.func127, rfl, by kernel_rfl, by kernel_rfl, by kernel_rfl, by kernel_rfl⟩ (ev_iUvalOk x)
theorem ev_within : ∀ x, evFn tab [] cWithin Try.f93 (body Try.f93) x := by
  rintro ⟨a, b, c⟩
  repeat' ((conv => whnf); refine br2 (fun h => ?_) (fun h => ?_))
  all_goals (conv => whnf)
  all_goals refine ⟨⟨rfl, ?_⟩⟩
  · show _ = [[D.lf (.bool (decide (b ≤ a) && decide (a ≤ c)))]]
    rw [show decide (b ≤ a) = true from h, Bool.true_and]
  · show _ = [[D.lf (.bool (decide (b ≤ a) && decide (a ≤ c)))]]
    rw [show decide (b ≤ a) = false from h, Bool.false_and]
theorem within_ok : FnOk Try.prog 93 cWithin := fnOk_of fun x => fn_at tab_ok (SOk.nil) mixed (fn := Try.f93) (code := body Try.f93) ⟨Try.func93, rfl, by kernel_rfl, by kernel_rfl, by kernel_rfl, by kernel_rfl⟩ (ev_within x)
theorem ev_iUserOk : ∀ x, evFn tab [(93, cWithin)] cUserOk Try.f126 (body Try.f126) x := by
  intro k
  conv => whnf
  refine ⟨⟨k.size, 1, 8⟩, rfl, ?_⟩
  rintro _ _ ⟨rfl, rfl⟩
  conv => whnf
  refine ⟨⟨rfl, ?_⟩⟩
  show [[D.lf (.bool (decide ((1 : Int) ≤ k.size) && decide ((k.size : Int) ≤ 8)))]] = [[D.lf (.bool (userOkB k))]]
  unfold userOkB
  rw [show decide ((1 : Int) ≤ k.size) = decide (1 ≤ k.size) from decide_eq_decide.2 (by omega), show decide ((k.size : Int) ≤ 8) = decide (k.size ≤ 8) from decide_eq_decide.2 (by omega)]
theorem iUserOk_ok : FnOk Try.prog 126 cUserOk := fnOk_of fun x => fn_at tab_ok (SOk.cons within_ok SOk.nil) mixed (fn := Try.f126) (code := body Try.f126) ⟨Try.func126, rfl, by kernel_rfl, by kernel_rfl, by kernel_rfl, by kernel_rfl⟩ (ev_iUserOk x)
theorem ev_iKeyOk : ∀ x, evFn tab [(93, cWithin)] cKeyOk Try.f66 (body Try.f66) x := by
  intro k
  conv => whnf
  refine ⟨⟨k.size, 1, 16⟩, rfl, ?_⟩
  rintro _ _ ⟨rfl, rfl⟩
  conv => whnf
  refine ⟨⟨rfl, ?_⟩⟩
  show [[D.lf (.bool (decide ((1 : Int) ≤ k.size) && decide ((k.size : Int) ≤ 16)))]] = [[D.lf (.bool (keyOkB k))]]
  unfold keyOkB
  rw [show decide ((1 : Int) ≤ k.size) = decide (1 ≤ k.size) from decide_eq_decide.2 (by omega), show decide ((k.size : Int) ≤ 16) = decide (k.size ≤ 16) from decide_eq_decide.2 (by omega)]
theorem iKeyOk_ok : FnOk Try.prog 66 cKeyOk := fnOk_of fun x => fn_at tab_ok (SOk.cons within_ok SOk.nil) mixed (fn := Try.f66) (code := body Try.f66) ⟨Try.func66, rfl, by kernel_rfl, by kernel_rfl, by kernel_rfl, by kernel_rfl⟩ (ev_iKeyOk x)
theorem natI (a b : Nat) : decide ((a : Int) ≤ b) = decide (a ≤ b) := decide_eq_decide.2 (by omega)
theorem natG (a b : Nat) : decide ((a : Int) > b) = !decide (a ≤ b) := by
  by_cases h : a ≤ b
  · rw [decide_eq_true h, decide_eq_false (by omega)]; rfl
  · rw [decide_eq_false h, decide_eq_true (by omega)]; rfl
theorem ev_sRangeOk : ∀ x, evFn tab [] cRangeOk Try.f65 (body Try.f65) x := by
  rintro ⟨a, b⟩
  repeat' ((conv => whnf); refine br2 (fun h => ?_) (fun h => ?_))
  all_goals (conv => whnf)
  all_goals refine ⟨⟨rfl, ?_⟩⟩
  all_goals show _ = [[D.lf (.bool (rangeOkB a b))]]
  · have h1 : ¬ a.size ≤ 17 := by have := of_decide_eq_true h; simp at this; omega
    simp [rangeOkB, h1]
  · rename_i h0
    have h1 : ¬ b.size ≤ 17 := by have := of_decide_eq_true h; simp at this; omega
    simp [rangeOkB, h1]
  · rename_i h1 h0
    have h3 : a.size ≤ 17 := by have := of_decide_eq_false h1; simp at this; omega
    have h4 : b.size ≤ 17 := by have := of_decide_eq_false h0; simp at this; omega
    have h5 : emp b = true := h
    simp [rangeOkB, h3, h4, h5]
  · rename_i h1 h0
    have h3 : a.size ≤ 17 := by have := of_decide_eq_false h1; simp at this; omega
    have h4 : b.size ≤ 17 := by have := of_decide_eq_false h0; simp at this; omega
    have h5 : emp b = false := h
    simp [rangeOkB, h3, h4, h5]
theorem sRangeOk_ok : FnOk Try.prog 65 cRangeOk := fnOk_of fun x => fn_at tab_ok (SOk.nil) mixed (fn := Try.f65) (code := body Try.f65) ⟨Try.func65, rfl, by kernel_rfl, by kernel_rfl, by kernel_rfl, by kernel_rfl⟩ (ev_sRangeOk x)
theorem ev_iRangeOk : ∀ x, evFn tab [] cRangeOk Try.f64 (body Try.f64) x := by
  rintro ⟨a, b⟩
  repeat' ((conv => whnf); refine br2 (fun h => ?_) (fun h => ?_))
  all_goals (conv => whnf)
  all_goals refine ⟨⟨rfl, ?_⟩⟩
  all_goals show _ = [[D.lf (.bool (rangeOkB a b))]]
  · rename_i h1 h0
    have h3 : a.size ≤ 17 := by have := of_decide_eq_true h1; simp at this; omega
    have h4 : b.size ≤ 17 := by have := of_decide_eq_true h0; simp at this; omega
    have h5 : emp b = true := h
    simp [rangeOkB, h3, h4, h5]
  · rename_i h1 h0
    have h3 : a.size ≤ 17 := by have := of_decide_eq_true h1; simp at this; omega
    have h4 : b.size ≤ 17 := by have := of_decide_eq_true h0; simp at this; omega
    have h5 : emp b = false := h
    show [[D.lf (.bool (!(strLt b a || strEq b a)))]] = _
    rw [strLt_gtr]
    simp [rangeOkB, h3, h4, h5]
  · rename_i h0
    have h1 : ¬ b.size ≤ 17 := by have := of_decide_eq_false h; simp at this; omega
    simp [rangeOkB, h1]
  · have h1 : ¬ a.size ≤ 17 := by have := of_decide_eq_false h; simp at this; omega
    simp [rangeOkB, h1]
theorem iRangeOk_ok : FnOk Try.prog 64 cRangeOk := fnOk_of fun x => fn_at tab_ok (SOk.nil) mixed (fn := Try.f64) (code := body Try.f64) ⟨Try.func64, rfl, by kernel_rfl, by kernel_rfl, by kernel_rfl, by kernel_rfl⟩ (ev_iRangeOk x)
theorem ev_sReachOk : ∀ x, evFn tab [(65, cRangeOk)] cReachOk Try.f101 (body Try.f101) x := by
  rintro ⟨a, b⟩
  conv => whnf
  refine ⟨(a, b), rfl, ?_⟩
  rintro _ _ ⟨rfl, rfl⟩
  repeat' ((conv => whnf); refine br2 (fun h => ?_) (fun h => ?_))
  all_goals (conv => whnf)
  all_goals refine ⟨⟨rfl, ?_⟩⟩
  all_goals show _ = [[D.lf (.bool (reachOkB a b))]]
  · rename_i h1
    have h2 : rangeOkB a b = true := h1
    have h3 : a.size ≤ 9 := by have := of_decide_eq_true h; simp at this; omega
    show [[D.lf (.bool (decide ((b.size : Int) ≤ (9 : Nat))))]] = _
    rw [natI]
    simp [reachOkB, h2, h3]
  · rename_i h1
    have h2 : rangeOkB a b = true := h1
    have h3 : ¬ a.size ≤ 9 := by have := of_decide_eq_false h; simp at this; omega
    simp [reachOkB, h2, h3]
  · have h2 : rangeOkB a b = false := h
    simp [reachOkB, h2]
theorem sReachOk_ok : FnOk Try.prog 101 cReachOk := fnOk_of fun x => fn_at tab_ok (SOk.cons sRangeOk_ok SOk.nil) mixed (fn := Try.f101) (code := body Try.f101) ⟨Try.func101, rfl, by kernel_rfl, by kernel_rfl, by kernel_rfl, by kernel_rfl⟩ (ev_sReachOk x)
theorem ev_iReachOk : ∀ x, evFn tab [(64, cRangeOk)] cReachOk Try.f128 (body Try.f128) x := by
  rintro ⟨a, b⟩
  conv => whnf
  refine ⟨(a, b), rfl, ?_⟩
  rintro _ _ ⟨rfl, rfl⟩
  repeat' ((conv => whnf); refine br2 (fun h => ?_) (fun h => ?_))
  all_goals (conv => whnf)
  all_goals refine ⟨⟨rfl, ?_⟩⟩
  all_goals show _ = [[D.lf (.bool (reachOkB a b))]]
  · rename_i h1
    have h2 : rangeOkB a b = true := h1
    have h3 : a.size ≤ 9 := by have := of_decide_eq_true h; simp at this; omega
    show [[D.lf (.bool (decide ((b.size : Int) ≤ (9 : Nat))))]] = _
    rw [natI]
    simp [reachOkB, h2, h3]
  · rename_i h1
    have h2 : rangeOkB a b = true := h1
    have h3 : ¬ a.size ≤ 9 := by have := of_decide_eq_false h; simp at this; omega
    simp [reachOkB, h2, h3]
  · have h2 : rangeOkB a b = false := h
    simp [reachOkB, h2]
theorem iReachOk_ok : FnOk Try.prog 128 cReachOk := fnOk_of fun x => fn_at tab_ok (SOk.cons iRangeOk_ok SOk.nil) mixed (fn := Try.f128) (code := body Try.f128) ⟨Try.func128, rfl, by kernel_rfl, by kernel_rfl, by kernel_rfl, by kernel_rfl⟩ (ev_iReachOk x)

/-! Records -/
structure RecX where
  kind : Int
  key : ByteArray
  val : ByteArray
  lo : ByteArray
  hi : ByteArray
def RecX.ds (r : RecX) : List D := [.lf (.int .i64 r.kind), .lf (.string r.key), .lf (.string r.val), .lf (.string r.lo), .lf (.string r.hi)]
def recOkB (r : RecX) : Bool :=
  if r.kind = 1 then userOkB r.key && uvalOkB r.val && (emp r.lo && emp r.hi)
  else if r.kind = 2 then userOkB r.key && emp r.val && (emp r.lo && emp r.hi)
  else if r.kind = 3 ∨ r.kind = 4 then emp r.key && emp r.val && reachOkB r.lo r.hi
  else false
def cRecOk : Con := pureC RecX [(.rd, true)] [false] (fun r => [r.ds]) (fun r => [[.lf (.bool (recOkB r))]])
theorem ev_sRecOk : ∀ x, evFn tab [(99, cUserOk), (100, cUvalOk), (101, cReachOk)] cRecOk Try.f47 (body Try.f47) x := by
  rintro ⟨kind, key, val, lo, hi⟩
  repeat' ((conv => whnf); first | refine br2 (fun h => ?_) (fun h => ?_) | (refine ⟨key, rfl, ?_⟩; rintro _ _ ⟨rfl, rfl⟩) | (refine ⟨val, rfl, ?_⟩; rintro _ _ ⟨rfl, rfl⟩) | (refine ⟨(lo, hi), rfl, ?_⟩; rintro _ _ ⟨rfl, rfl⟩))
  all_goals (conv => whnf)
  all_goals refine ⟨⟨rfl, ?_⟩⟩
  all_goals show _ = [[D.lf (.bool (recOkB ⟨kind, key, val, lo, hi⟩))]]
  all_goals simp_all [recOkB, emp]
theorem sRecOk_ok : FnOk Try.prog 47 cRecOk := fnOk_of fun x => fn_at tab_ok (SOk.cons sUserOk_ok (SOk.cons sUvalOk_ok (SOk.cons sReachOk_ok SOk.nil))) mixed (fn := Try.f47) (code := body Try.f47) ⟨Try.func47, rfl, by kernel_rfl, by kernel_rfl, by kernel_rfl, by kernel_rfl⟩ (ev_sRecOk x)
theorem ev_iRecOk : ∀ x, evFn tab [(126, cUserOk), (127, cUvalOk), (128, cReachOk)] cRecOk Try.f74 (body Try.f74) x := by
  rintro ⟨kind, key, val, lo, hi⟩
  repeat' ((conv => whnf); first | refine br2 (fun h => ?_) (fun h => ?_) | (refine ⟨key, rfl, ?_⟩; rintro _ _ ⟨rfl, rfl⟩) | (refine ⟨val, rfl, ?_⟩; rintro _ _ ⟨rfl, rfl⟩) | (refine ⟨(lo, hi), rfl, ?_⟩; rintro _ _ ⟨rfl, rfl⟩))
  all_goals (conv => whnf)
  all_goals refine ⟨⟨rfl, ?_⟩⟩
  all_goals show _ = [[D.lf (.bool (recOkB ⟨kind, key, val, lo, hi⟩))]]
  all_goals simp_all [recOkB, emp]
theorem iRecOk_ok : FnOk Try.prog 74 cRecOk := fnOk_of fun x => fn_at tab_ok (SOk.cons iUserOk_ok (SOk.cons iUvalOk_ok (SOk.cons iReachOk_ok SOk.nil))) mixed (fn := Try.f74) (code := body Try.f74) ⟨Try.func74, rfl, by kernel_rfl, by kernel_rfl, by kernel_rfl, by kernel_rfl⟩ (ev_iRecOk x)
theorem eqf_strs (a b : ByteArray) : (!strEq a b) = true ↔ a ≠ b := by rw [Bool.not_eq_true', strEq_no]

/-! Equal structs -/
structure Rng2 where
  a : ByteArray
  b : ByteArray
  c : ByteArray
  d : ByteArray
def cEqRange : Con := pureC Rng2 [(.rd, true), (.rd, true)] [false] (fun x => [[.lf (.string x.a), .lf (.string x.b)], [.lf (.string x.c), .lf (.string x.d)]]) (fun x => [[.lf (.bool (strEq x.a x.c && strEq x.b x.d))]])
theorem ev_eqRange : ∀ x, evFn tab [] cEqRange Try.f80 (body Try.f80) x := by
  rintro ⟨a, b, c, d⟩
  repeat' ((conv => whnf); refine br2 (fun h => ?_) (fun h => ?_))
  all_goals (conv => whnf)
  all_goals refine ⟨⟨rfl, ?_⟩⟩
  all_goals show _ = [[D.lf (.bool (strEq a c && strEq b d))]]
  all_goals simp_all
theorem eqRange_ok : FnOk Try.prog 80 cEqRange := fnOk_of fun x => fn_at tab_ok (SOk.nil) mixed (fn := Try.f80) (code := body Try.f80) ⟨Try.func80, rfl, by kernel_rfl, by kernel_rfl, by kernel_rfl, by kernel_rfl⟩ (ev_eqRange x)
noncomputable def cEqRec : Con := pureC (RecX × RecX) [(.rd, true), (.rd, true)] [false] (fun x => [x.1.ds, x.2.ds]) (fun x => [[.lf (.bool (eqX x.1 x.2))]])
theorem ev_eqRec : ∀ x, evFn tab [(80, cEqRange)] cEqRec Try.f26 (body Try.f26) x := by
  rintro ⟨⟨k, a, b, c, d⟩, ⟨k', a', b', c', d'⟩⟩
  repeat' ((conv => whnf); first | refine br2 (fun h => ?_) (fun h => ?_) | (refine ⟨⟨c, d, c', d'⟩, rfl, ?_⟩; rintro _ _ ⟨rfl, rfl⟩))
  all_goals (conv => whnf)
  all_goals refine ⟨⟨rfl, ?_⟩⟩
  all_goals show _ = [[D.lf (.bool (eqX (⟨k, a, b, c, d⟩ : RecX) ⟨k', a', b', c', d'⟩))]]
  all_goals congr 4
  all_goals rw [eq_comm]
  all_goals simp_all [strEq_iff, strEq_no, eqX_iff, eqX_no]
  exact fun e1 e2 => h.elim (fun h => h e1) (fun h => h e2)
theorem eqRec_ok : FnOk Try.prog 26 cEqRec := fnOk_of fun x => fn_at tab_ok (SOk.cons eqRange_ok SOk.nil) mixed (fn := Try.f26) (code := body Try.f26) ⟨Try.func26, rfl, by kernel_rfl, by kernel_rfl, by kernel_rfl, by kernel_rfl⟩ (ev_eqRec x)
end Go.Vm
namespace Go.Vm
open Go.Proofs
set_option maxRecDepth 100000
set_option linter.unusedVariables false
set_option linter.unusedSimpArgs false

structure TxX where
  c : Int
  e : Int
  n : Int
def TxX.ds (x : TxX) : List D := [.lf (.int .i64 x.c), .lf (.int .i64 x.e), .lf (.int .i64 x.n)]
structure RngX where
  lo : ByteArray
  hi : ByteArray
def RngX.ds (x : RngX) : List D := [.lf (.string x.lo), .lf (.string x.hi)]
structure LockX where
  tx : TxX
  rng : RngX
  ex : Bool
def LockX.ds (x : LockX) : List D := [.lf (.int .i64 x.tx.c), .lf (.int .i64 x.tx.e), .lf (.int .i64 x.tx.n), .lf (.string x.rng.lo), .lf (.string x.rng.hi), .lf (.bool x.ex)]
theorem LockX.len (x : LockX) : x.ds.length = 6 := rfl
theorem LockX.flat (x : LockX) : flatL x.ds = true := rfl

/-- A copy of a struct; of a slice; whether two are alike; how large one is. -/
def cCopy {X : Type} (ds : X → List D) : Con := pureC X [(.rd, true)] [true] (fun x => [ds x]) (fun x => [ds x])
noncomputable def cEq {X : Type} (ds : X → List D) : Con := pureC (X × X) [(.rd, true), (.rd, true)] [false] (fun x => [ds x.1, ds x.2]) (fun x => [[.lf (.bool (eqX x.1 x.2))]])
structure LstX (X : Type) where
  l : List X
  hl : l.length ≤ 1048576
def cCopyS {X : Type} (sz : Nat) (ds : X → List D) : Con := pureC (LstX X) [(.rd, false)] [false] (fun x => [[.row sz ds x.l]]) (fun x => [[.row sz ds x.l]])
noncomputable def cEqS {X : Type} (sz : Nat) (ds : X → List D) : Con := pureC (List X × List X) [(.rd, false), (.rd, false)] [false] (fun x => [[.row sz ds x.1], [.row sz ds x.2]]) (fun x => [[.lf (.bool (eqX x.1 x.2))]])
structure SzX (X : Type) (B0 : X → Prop) where
  x : X
  left : Int
  h1 : 0 ≤ left
  h2 : left ≤ 1048576
  hb : B0 x
/-- What is left behind a struct or a slice is not more; where it is no less than nothing, the sizes fit. -/
def cSz {X : Type} (ds : X → List D) (B0 B : X → Prop) : Con := relC (SzX X B0) [(.rd, true), (.rd, false)] [false] (fun x => [ds x.x, [.lf (.int .i64 x.left)]]) (fun x r => ∃ k : Int, r = [[.lf (.int .i64 k)]] ∧ -1 ≤ k ∧ k ≤ x.left ∧ (0 ≤ k → B x.x))
def cSzS {X : Type} (sz : Nat) (ds : X → List D) (B0 B : X → Prop) : Con := relC (SzX (List X) fun l => l.length ≤ 9223372036854775807 ∧ ∀ y ∈ l, B0 y) [(.rd, false), (.rd, false)] [false] (fun x => [[.row sz ds x.x], [.lf (.int .i64 x.left)]])
  (fun x r => ∃ k : Int, r = [[.lf (.int .i64 k)]] ∧ -1 ≤ k ∧ k ≤ x.left ∧ (0 ≤ k → x.x.length + k ≤ x.left ∧ ∀ y ∈ x.x, B y))
def maxS : Nat := 9223372036854775807
def rngB0 (x : RngX) : Prop := x.lo.size ≤ maxS ∧ x.hi.size ≤ maxS
def rngB (x : RngX) : Prop := x.lo.size ≤ 1048576 ∧ x.hi.size ≤ 1048576
def lockB0 (x : LockX) : Prop := rngB0 x.rng
def lockB (x : LockX) : Prop := rngB x.rng
theorem ev_szRange : ∀ x, evFn tab [] (cSz RngX.ds rngB0 rngB) Try.f40 (body Try.f40) x := by
  rintro ⟨⟨lo, hi⟩, left, h1, h2, hb1, hb2⟩
  replace hb1 : lo.size ≤ 9223372036854775807 := hb1
  replace hb2 : hi.size ≤ 9223372036854775807 := hb2
  conv => whnf
  have e1 : IntKind.i64.wrap (left - (lo.size : Int)) = left - lo.size := w64 (by omega) (by omega)
  refine br2 (fun h3 => ?_) (fun h3 => ?_)
  · conv => whnf
    exact ⟨⟨rfl, -1, rfl, by omega, (show (-1 : Int) ≤ left by omega), fun h => by omega⟩⟩
  · replace h3 : decide (IntKind.i64.wrap (left - (lo.size : Int)) < 0) = false := h3
    rw [e1] at h3
    have h3' := of_decide_eq_false h3
    conv => whnf
    have e2 : IntKind.i64.wrap (IntKind.i64.wrap (left - (lo.size : Int)) - (hi.size : Int)) = left - lo.size - hi.size := by rw [e1]; exact w64 (by omega) (by omega)
    refine br2 (fun h4 => ?_) (fun h4 => ?_)
    · conv => whnf
      exact ⟨⟨rfl, -1, rfl, by omega, (show (-1 : Int) ≤ left by omega), fun h => by omega⟩⟩
    · replace h4 : decide (IntKind.i64.wrap (IntKind.i64.wrap (left - (lo.size : Int)) - (hi.size : Int)) < 0) = false := h4
      rw [e2] at h4
      have h4' := of_decide_eq_false h4
      conv => whnf
      refine ⟨⟨rfl, _, rfl, ?_, ?_, fun _ => (⟨by omega, by omega⟩ : lo.size ≤ 1048576 ∧ hi.size ≤ 1048576)⟩⟩
      · show -1 ≤ IntKind.i64.wrap (IntKind.i64.wrap (left - (lo.size : Int)) - (hi.size : Int))
        rw [e2]; omega
      · show IntKind.i64.wrap (IntKind.i64.wrap (left - (lo.size : Int)) - (hi.size : Int)) ≤ left
        rw [e2]; omega
theorem szRange_ok : FnOk Try.prog 40 (cSz RngX.ds rngB0 rngB) := fnOk_of fun x => fn_at tab_ok (SOk.nil) mixed (fn := Try.f40) (code := body Try.f40) ⟨Try.func40, rfl, by kernel_rfl, by kernel_rfl, by kernel_rfl, by kernel_rfl⟩ (ev_szRange x)
theorem ev_szLock : ∀ x, evFn tab [(40, (cSz RngX.ds rngB0 rngB))] (cSz LockX.ds lockB0 lockB) Try.f132 (body Try.f132) x := by
  rintro ⟨x, left, h1, h2, hb⟩
  conv => whnf
  refine ⟨⟨x.rng, left, h1, h2, hb⟩, rfl, ?_⟩
  rintro _ _ ⟨rfl, k, rfl, k1, k2, k3⟩
  replace k2 : k ≤ left := k2
  conv => whnf
  refine br2 (fun h3 => ?_) (fun h3 => ?_)
  · conv => whnf
    exact ⟨⟨rfl, -1, rfl, by omega, (show (-1 : Int) ≤ left by omega), fun h => by omega⟩⟩
  · conv => whnf
    exact ⟨⟨rfl, k, rfl, k1, k2, k3⟩⟩
theorem szLock_ok : FnOk Try.prog 132 (cSz LockX.ds lockB0 lockB) := fnOk_of fun x => fn_at tab_ok (SOk.cons szRange_ok SOk.nil) mixed (fn := Try.f132) (code := body Try.f132) ⟨Try.func132, rfl, by kernel_rfl, by kernel_rfl, by kernel_rfl, by kernel_rfl⟩ (ev_szLock x)
theorem ev_szPair : ∀ x, evFn tab [] (cSz RngX.ds rngB0 rngB) Try.f144 (body Try.f144) x := by
  rintro ⟨⟨lo, hi⟩, left, h1, h2, hb1, hb2⟩
  replace hb1 : lo.size ≤ 9223372036854775807 := hb1
  replace hb2 : hi.size ≤ 9223372036854775807 := hb2
  conv => whnf
  have e1 : IntKind.i64.wrap (left - (lo.size : Int)) = left - lo.size := w64 (by omega) (by omega)
  refine br2 (fun h3 => ?_) (fun h3 => ?_)
  · conv => whnf
    exact ⟨⟨rfl, -1, rfl, by omega, (show (-1 : Int) ≤ left by omega), fun h => by omega⟩⟩
  · replace h3 : decide (IntKind.i64.wrap (left - (lo.size : Int)) < 0) = false := h3
    rw [e1] at h3
    have h3' := of_decide_eq_false h3
    conv => whnf
    have e2 : IntKind.i64.wrap (IntKind.i64.wrap (left - (lo.size : Int)) - (hi.size : Int)) = left - lo.size - hi.size := by rw [e1]; exact w64 (by omega) (by omega)
    refine br2 (fun h4 => ?_) (fun h4 => ?_)
    · conv => whnf
      exact ⟨⟨rfl, -1, rfl, by omega, (show (-1 : Int) ≤ left by omega), fun h => by omega⟩⟩
    · replace h4 : decide (IntKind.i64.wrap (IntKind.i64.wrap (left - (lo.size : Int)) - (hi.size : Int)) < 0) = false := h4
      rw [e2] at h4
      have h4' := of_decide_eq_false h4
      conv => whnf
      refine ⟨⟨rfl, _, rfl, ?_, ?_, fun _ => (⟨by omega, by omega⟩ : lo.size ≤ 1048576 ∧ hi.size ≤ 1048576)⟩⟩
      · show -1 ≤ IntKind.i64.wrap (IntKind.i64.wrap (left - (lo.size : Int)) - (hi.size : Int))
        rw [e2]; omega
      · show IntKind.i64.wrap (IntKind.i64.wrap (left - (lo.size : Int)) - (hi.size : Int)) ≤ left
        rw [e2]; omega
theorem szPair_ok : FnOk Try.prog 144 (cSz RngX.ds rngB0 rngB) := fnOk_of fun x => fn_at tab_ok (SOk.nil) mixed (fn := Try.f144) (code := body Try.f144) ⟨Try.func144, rfl, by kernel_rfl, by kernel_rfl, by kernel_rfl, by kernel_rfl⟩ (ev_szPair x)
theorem ev_szLockS : ∀ x, evFn tab [(132, (cSz LockX.ds lockB0 lockB))] (cSzS 6 LockX.ds lockB0 lockB) Try.f81 (body Try.f81) x := by
  rintro ⟨l, left, h1, h2, hb0, hb⟩
  replace hb0 : l.length ≤ 9223372036854775807 := hb0
  conv => whnf
  intro h3
  conv => whnf
  have e1 : IntKind.i64.wrap (left - (l.length : Int)) = left - l.length := w64 (by omega) (by omega)
  refine br2 (fun h4 => ?_) (fun h4 => ?_)
  · conv => whnf
    exact ⟨⟨rfl, -1, rfl, by omega, (show (-1 : Int) ≤ left by omega), fun h => by omega⟩⟩
  replace h4 : decide (IntKind.i64.wrap (left - (l.length : Int)) < 0) = false := h4
  rw [e1] at h4
  have h4' := of_decide_eq_false h4
  conv => whnf
  refine ⟨fun m s h => ∃ (i : Nat) (k : Int), i ≤ l.length ∧ 0 ≤ k ∧ k ≤ left - l.length ∧ (∀ j y, j < i → l[j]? = some y → lockB y) ∧ m = l.length - i ∧ s = [(0, .sl 0 none), (1, .lf (.int .i64 k)), (5, .lf (.int .i64 i))] ∧ h = [(0, some (.row .lent 6 LockX.ds l))],
    l.length, [(0, 0)], [(0, .sl 0 none), (1, .lf (.int .i64 (left - l.length))), (5, .lf (.int .i64 0))], [(0, some (.row .lent 6 LockX.ds l))], ⟨rfl, ⟨rfl, ?_, rfl, trivial⟩, ⟨rfl, trivial⟩⟩, ⟨0, left - l.length, by omega, by omega, by omega, fun j y h => by omega, by omega, rfl, rfl⟩, ?_⟩
  · show V.lf (.int .i64 (IntKind.i64.wrap (left - (l.length : Int)))) = _
    rw [e1]
  rintro m _ _ ⟨i, k, g1, g2, g3, g4, rfl, rfl, rfl⟩
  conv => whnf
  intro _
  conv => whnf
  refine br2 (fun h5 => ?_) (fun h5 => ?_)
  · have hi : i < l.length := by have := of_decide_eq_true h5; omega
    obtain ⟨y, hy⟩ : ∃ y, l[i]? = some y := ⟨_, List.getElem?_eq_getElem hi⟩
    have hy2 : nth l ((i : Nat) : Int).toNat = some y := by rw [nth_eq, Int.toNat_natCast]; exact hy
    conv => whnf
    refine ⟨Int.natCast_nonneg _, (show (i : Int) < (l.length : Int) by omega), ?_⟩
    conv => whnf
    refine ex2 y hy2 ?_
    conv => whnf
    refine ⟨⟨y, k, g2, by omega, hb y (List.mem_of_getElem? hy)⟩, rfl, ?_⟩
    rintro _ _ ⟨rfl, k', rfl, k1, k2, k3⟩
    replace k2 : k' ≤ k := k2
    conv => whnf
    refine br2 (fun h6 => ?_) (fun h6 => ?_)
    · conv => whnf
      exact ⟨⟨rfl, -1, rfl, by omega, (show (-1 : Int) ≤ left by omega), fun h => by omega⟩⟩
    · have h6' := of_decide_eq_false h6
      conv => whnf
      refine ⟨l.length - (i + 1), [(0, 0)], [(0, .sl 0 none), (1, .lf (.int .i64 k')), (5, .lf (.int .i64 ((i + 1 : Nat) : Int)))], [(0, some (.row .lent 6 LockX.ds l))], by omega, ⟨rfl, ⟨rfl, rfl, ?_, trivial⟩, ⟨rfl, trivial⟩⟩, i + 1, k', by omega, by omega, by omega, fun j z hj hz => ?_, rfl, rfl, rfl⟩
      · show V.lf (.int .i64 (IntKind.i64.wrap ((i : Int) + 1))) = _
        rw [w64 (by omega) (by omega)]; rfl
      · rcases Nat.lt_or_ge j i with h7 | h7
        · exact g4 j z h7 hz
        · obtain rfl : j = i := by omega
          rw [hy] at hz; cases hz; exact k3 (by omega)
  · have hi : i = l.length := by have := of_decide_eq_false h5; omega
    conv => whnf
    refine ⟨⟨rfl, k, rfl, by omega, (show k ≤ left by omega), fun _ => (⟨by omega, fun y hy => ?_⟩ : (l.length : Int) + k ≤ left ∧ ∀ y ∈ l, lockB y)⟩⟩
    obtain ⟨j, hj⟩ := List.getElem?_of_mem hy
    exact g4 j y (by rw [hi]; exact (List.getElem?_eq_some_iff.1 hj).1) hj
theorem szLockS_ok : FnOk Try.prog 81 (cSzS 6 LockX.ds lockB0 lockB) := fnOk_of fun x => fn_at tab_ok (SOk.cons szLock_ok SOk.nil) mixed (fn := Try.f81) (code := body Try.f81) ⟨Try.func81, rfl, by kernel_rfl, by kernel_rfl, by kernel_rfl, by kernel_rfl⟩ (ev_szLockS x)
theorem ev_szPairS : ∀ x, evFn tab [(144, (cSz RngX.ds rngB0 rngB))] (cSzS 2 RngX.ds rngB0 rngB) Try.f103 (body Try.f103) x := by
  rintro ⟨l, left, h1, h2, hb0, hb⟩
  replace hb0 : l.length ≤ 9223372036854775807 := hb0
  conv => whnf
  intro h3
  conv => whnf
  have e1 : IntKind.i64.wrap (left - (l.length : Int)) = left - l.length := w64 (by omega) (by omega)
  refine br2 (fun h4 => ?_) (fun h4 => ?_)
  · conv => whnf
    exact ⟨⟨rfl, -1, rfl, by omega, (show (-1 : Int) ≤ left by omega), fun h => by omega⟩⟩
  replace h4 : decide (IntKind.i64.wrap (left - (l.length : Int)) < 0) = false := h4
  rw [e1] at h4
  have h4' := of_decide_eq_false h4
  conv => whnf
  refine ⟨fun m s h => ∃ (i : Nat) (k : Int), i ≤ l.length ∧ 0 ≤ k ∧ k ≤ left - l.length ∧ (∀ j y, j < i → l[j]? = some y → rngB y) ∧ m = l.length - i ∧ s = [(0, .sl 0 none), (1, .lf (.int .i64 k)), (5, .lf (.int .i64 i))] ∧ h = [(0, some (.row .lent 2 RngX.ds l))],
    l.length, [(0, 0)], [(0, .sl 0 none), (1, .lf (.int .i64 (left - l.length))), (5, .lf (.int .i64 0))], [(0, some (.row .lent 2 RngX.ds l))], ⟨rfl, ⟨rfl, ?_, rfl, trivial⟩, ⟨rfl, trivial⟩⟩, ⟨0, left - l.length, by omega, by omega, by omega, fun j y h => by omega, by omega, rfl, rfl⟩, ?_⟩
  · show V.lf (.int .i64 (IntKind.i64.wrap (left - (l.length : Int)))) = _
    rw [e1]
  rintro m _ _ ⟨i, k, g1, g2, g3, g4, rfl, rfl, rfl⟩
  conv => whnf
  intro _
  conv => whnf
  refine br2 (fun h5 => ?_) (fun h5 => ?_)
  · have hi : i < l.length := by have := of_decide_eq_true h5; omega
    obtain ⟨y, hy⟩ : ∃ y, l[i]? = some y := ⟨_, List.getElem?_eq_getElem hi⟩
    have hy2 : nth l ((i : Nat) : Int).toNat = some y := by rw [nth_eq, Int.toNat_natCast]; exact hy
    conv => whnf
    refine ⟨Int.natCast_nonneg _, (show (i : Int) < (l.length : Int) by omega), ?_⟩
    conv => whnf
    refine ex2 y hy2 ?_
    conv => whnf
    refine ⟨⟨y, k, g2, by omega, hb y (List.mem_of_getElem? hy)⟩, rfl, ?_⟩
    rintro _ _ ⟨rfl, k', rfl, k1, k2, k3⟩
    replace k2 : k' ≤ k := k2
    conv => whnf
    refine br2 (fun h6 => ?_) (fun h6 => ?_)
    · conv => whnf
      exact ⟨⟨rfl, -1, rfl, by omega, (show (-1 : Int) ≤ left by omega), fun h => by omega⟩⟩
    · have h6' := of_decide_eq_false h6
      conv => whnf
      refine ⟨l.length - (i + 1), [(0, 0)], [(0, .sl 0 none), (1, .lf (.int .i64 k')), (5, .lf (.int .i64 ((i + 1 : Nat) : Int)))], [(0, some (.row .lent 2 RngX.ds l))], by omega, ⟨rfl, ⟨rfl, rfl, ?_, trivial⟩, ⟨rfl, trivial⟩⟩, i + 1, k', by omega, by omega, by omega, fun j z hj hz => ?_, rfl, rfl, rfl⟩
      · show V.lf (.int .i64 (IntKind.i64.wrap ((i : Int) + 1))) = _
        rw [w64 (by omega) (by omega)]; rfl
      · rcases Nat.lt_or_ge j i with h7 | h7
        · exact g4 j z h7 hz
        · obtain rfl : j = i := by omega
          rw [hy] at hz; cases hz; exact k3 (by omega)
  · have hi : i = l.length := by have := of_decide_eq_false h5; omega
    conv => whnf
    refine ⟨⟨rfl, k, rfl, by omega, (show k ≤ left by omega), fun _ => (⟨by omega, fun y hy => ?_⟩ : (l.length : Int) + k ≤ left ∧ ∀ y ∈ l, rngB y)⟩⟩
    obtain ⟨j, hj⟩ := List.getElem?_of_mem hy
    exact g4 j y (by rw [hi]; exact (List.getElem?_eq_some_iff.1 hj).1) hj
theorem szPairS_ok : FnOk Try.prog 103 (cSzS 2 RngX.ds rngB0 rngB) := fnOk_of fun x => fn_at tab_ok (SOk.cons szPair_ok SOk.nil) mixed (fn := Try.f103) (code := body Try.f103) ⟨Try.func103, rfl, by kernel_rfl, by kernel_rfl, by kernel_rfl, by kernel_rfl⟩ (ev_szPairS x)

theorem ev_toTx : ∀ x, evFn tab [] (cCopy TxX.ds) Try.f42 (body Try.f42) x := by
  intro x
  conv => whnf
  exact ⟨⟨rfl, rfl⟩⟩
theorem toTx_ok : FnOk Try.prog 42 (cCopy TxX.ds) := fnOk_of fun x => fn_at tab_ok (SOk.nil) mixed (fn := Try.f42) (code := body Try.f42) ⟨Try.func42, rfl, by kernel_rfl, by kernel_rfl, by kernel_rfl, by kernel_rfl⟩ (ev_toTx x)
theorem ev_toRange : ∀ x, evFn tab [] (cCopy RngX.ds) Try.f43 (body Try.f43) x := by
  intro x
  conv => whnf
  exact ⟨⟨rfl, rfl⟩⟩
theorem toRange_ok : FnOk Try.prog 43 (cCopy RngX.ds) := fnOk_of fun x => fn_at tab_ok (SOk.nil) mixed (fn := Try.f43) (code := body Try.f43) ⟨Try.func43, rfl, by kernel_rfl, by kernel_rfl, by kernel_rfl, by kernel_rfl⟩ (ev_toRange x)
theorem ev_toPair : ∀ x, evFn tab [] (cCopy RngX.ds) Try.f145 (body Try.f145) x := by
  intro x
  conv => whnf
  exact ⟨⟨rfl, rfl⟩⟩
theorem toPair_ok : FnOk Try.prog 145 (cCopy RngX.ds) := fnOk_of fun x => fn_at tab_ok (SOk.nil) mixed (fn := Try.f145) (code := body Try.f145) ⟨Try.func145, rfl, by kernel_rfl, by kernel_rfl, by kernel_rfl, by kernel_rfl⟩ (ev_toPair x)
theorem ev_toLock : ∀ x, evFn tab [(42, (cCopy TxX.ds)), (43, (cCopy RngX.ds))] (cCopy LockX.ds) Try.f134 (body Try.f134) x := by
  intro x
  conv => whnf
  refine ⟨x.tx, rfl, ?_⟩
  rintro _ _ ⟨rfl, rfl⟩
  conv => whnf
  refine ⟨x.rng, rfl, ?_⟩
  rintro _ _ ⟨rfl, rfl⟩
  conv => whnf
  exact ⟨⟨rfl, rfl⟩⟩
theorem toLock_ok : FnOk Try.prog 134 (cCopy LockX.ds) := fnOk_of fun x => fn_at tab_ok (SOk.cons toTx_ok (SOk.cons toRange_ok SOk.nil)) mixed (fn := Try.f134) (code := body Try.f134) ⟨Try.func134, rfl, by kernel_rfl, by kernel_rfl, by kernel_rfl, by kernel_rfl⟩ (ev_toLock x)
theorem ev_eqTx : ∀ x, evFn tab [] (cEq TxX.ds) Try.f75 (body Try.f75) x := by
  rintro ⟨⟨a, b, c⟩, ⟨d, e, f⟩⟩
  repeat' ((conv => whnf); refine br2 (fun h => ?_) (fun h => ?_))
  all_goals (conv => whnf)
  all_goals refine ⟨⟨rfl, ?_⟩⟩
  all_goals show _ = [[D.lf (.bool (eqX (⟨a, b, c⟩ : TxX) ⟨d, e, f⟩))]]
  all_goals congr 4
  all_goals rw [eq_comm]
  all_goals simp_all [eqX_iff, eqX_no]
theorem eqTx_ok : FnOk Try.prog 75 (cEq TxX.ds) := fnOk_of fun x => fn_at tab_ok (SOk.nil) mixed (fn := Try.f75) (code := body Try.f75) ⟨Try.func75, rfl, by kernel_rfl, by kernel_rfl, by kernel_rfl, by kernel_rfl⟩ (ev_eqTx x)
theorem ev_eqPair : ∀ x, evFn tab [] (cEq RngX.ds) Try.f150 (body Try.f150) x := by
  rintro ⟨⟨a, b⟩, ⟨c, d⟩⟩
  repeat' ((conv => whnf); refine br2 (fun h => ?_) (fun h => ?_))
  all_goals (conv => whnf)
  all_goals refine ⟨⟨rfl, ?_⟩⟩
  all_goals show _ = [[D.lf (.bool (eqX (⟨a, b⟩ : RngX) ⟨c, d⟩))]]
  all_goals congr 4
  all_goals rw [eq_comm]
  all_goals simp_all [eqX_iff, eqX_no, strEq_iff, strEq_no]
theorem eqPair_ok : FnOk Try.prog 150 (cEq RngX.ds) := fnOk_of fun x => fn_at tab_ok (SOk.nil) mixed (fn := Try.f150) (code := body Try.f150) ⟨Try.func150, rfl, by kernel_rfl, by kernel_rfl, by kernel_rfl, by kernel_rfl⟩ (ev_eqPair x)
theorem ev_eqLock : ∀ x, evFn tab [(75, (cEq TxX.ds)), (80, cEqRange)] (cEq LockX.ds) Try.f116 (body Try.f116) x := by
  rintro ⟨⟨x, ⟨a, b⟩, e⟩, ⟨y, ⟨c, d⟩, f⟩⟩
  repeat' ((conv => whnf); first | refine br2 (fun h => ?_) (fun h => ?_) | (refine ⟨(x, y), rfl, ?_⟩; rintro _ _ ⟨rfl, rfl⟩) | (refine ⟨⟨a, b, c, d⟩, rfl, ?_⟩; rintro _ _ ⟨rfl, rfl⟩))
  all_goals (conv => whnf)
  all_goals refine ⟨⟨rfl, ?_⟩⟩
  all_goals show _ = [[D.lf (.bool (eqX (⟨x, ⟨a, b⟩, e⟩ : LockX) ⟨y, ⟨c, d⟩, f⟩))]]
  all_goals congr 4
  all_goals rw [eq_comm]
  all_goals simp_all [eqX_iff, eqX_no, strEq_iff, strEq_no]
  exact fun e1 e2 _ => h.elim (fun h => h e1) (fun h => h e2)
theorem eqLock_ok : FnOk Try.prog 116 (cEq LockX.ds) := fnOk_of fun x => fn_at tab_ok (SOk.cons eqTx_ok (SOk.cons eqRange_ok SOk.nil)) mixed (fn := Try.f116) (code := body Try.f116) ⟨Try.func116, rfl, by kernel_rfl, by kernel_rfl, by kernel_rfl, by kernel_rfl⟩ (ev_eqLock x)
def rng0 : RngX := ⟨⟨#[]⟩, ⟨#[]⟩⟩
def lock0 : LockX := ⟨⟨0, 0, 0⟩, ⟨⟨#[]⟩, ⟨#[]⟩⟩, false⟩
theorem set_at {α : Type} {l : List α} {i j : Nat} {y : α} (hi : i < l.length) : (l.set i y)[j]? = if i = j then some y else l[j]? := by
  rw [List.getElem?_set]
  split
  · rename_i e; subst e; simp [hi]
  · rfl
theorem ev_toLockS : ∀ x, evFn tab [(134, (cCopy LockX.ds))] (cCopyS 6 LockX.ds) Try.f85 (body Try.f85) x := by
  rintro ⟨l, hl⟩
  conv => whnf
  intro h1
  conv => whnf
  refine ⟨Int.natCast_nonneg _, rfl, ?_, ?_⟩
  · show (l.length : Int) ≤ (4294967296 : Nat); omega
  conv => whnf
  refine ⟨LockX, LockX.ds, lock0, fun _ => rfl, rfl, ?_⟩
  conv => whnf
  refine ⟨fun m s h => ∃ (i : Nat) (l' : List LockX), i ≤ l.length ∧ l'.length = l.length ∧ (∀ j, j < i → l'[j]? = l[j]?) ∧ m = l.length - i ∧ s = [(0, .sl 0 none), (3, .sl 112 none), (4, .lf (.int .i64 i))] ∧ h = [(112, some (.row .own 6 LockX.ds l')), (0, some (.row .lent 6 LockX.ds l))],
    l.length, [(112, 112), (0, 0)], [(0, .sl 0 none), (3, .sl 112 none), (4, .lf (.int .i64 0))], [(112, some (.row .own 6 LockX.ds (List.replicate (l.length : Int).toNat lock0))), (0, some (.row .lent 6 LockX.ds l))], ⟨rfl, ⟨rfl, rfl, rfl, trivial⟩, ⟨rfl, rfl, trivial⟩⟩,
    ⟨0, _, by omega, by rw [List.length_replicate, Int.toNat_natCast], fun j h => by omega, by omega, rfl, rfl⟩, ?_⟩
  rintro m _ _ ⟨i, l', g1, g2, g3, rfl, rfl, rfl⟩
  conv => whnf
  intro _
  conv => whnf
  refine br2 (fun h5 => ?_) (fun h5 => ?_)
  · have hi : i < l.length := by have := of_decide_eq_true h5; omega
    obtain ⟨y, hy⟩ : ∃ y, l[i]? = some y := ⟨_, List.getElem?_eq_getElem hi⟩
    have hy2 : nth l ((i : Nat) : Int).toNat = some y := by rw [nth_eq, Int.toNat_natCast]; exact hy
    obtain ⟨z, hz⟩ : ∃ z, l'[i]? = some z := ⟨_, List.getElem?_eq_getElem (by omega)⟩
    have hz2 : nth l' ((i : Nat) : Int).toNat = some z := by rw [nth_eq, Int.toNat_natCast]; exact hz
    conv => whnf
    refine ⟨Int.natCast_nonneg _, (show (i : Int) < (l.length : Int) by omega), ?_⟩
    conv => whnf
    refine ex2 y hy2 ?_
    conv => whnf
    refine ⟨y, rfl, ?_⟩
    rintro _ _ ⟨rfl, rfl⟩
    conv => whnf
    refine ⟨Int.natCast_nonneg _, (show (i : Int) < (l'.length : Int) by omega), ?_⟩
    conv => whnf
    refine ex2 z hz2 ?_
    conv => whnf
    refine ⟨y, rfl, ?_⟩
    conv => whnf
    refine ⟨l.length - (i + 1), [(112, 112), (0, 0)], [(0, .sl 0 none), (3, .sl 112 none), (4, .lf (.int .i64 ((i + 1 : Nat) : Int)))], [(112, some (.row .own 6 LockX.ds (l'.set (i : Int).toNat y))), (0, some (.row .lent 6 LockX.ds l))], by omega, ⟨rfl, ⟨rfl, rfl, ?_, trivial⟩, ⟨rfl, rfl, trivial⟩⟩, i + 1, _, by omega, ?_, fun j hj => ?_, rfl, rfl, rfl⟩
    · show V.lf (.int .i64 (IntKind.i64.wrap ((i : Int) + 1))) = _
      rw [w64 (by omega) (by omega)]; rfl
    · rw [List.length_set]; exact g2
    · rw [Int.toNat_natCast, set_at (by omega)]
      split
      · rename_i e; subst e; exact hy.symm
      · exact g3 j (by omega)
  · have hi : i = l.length := by have := of_decide_eq_false h5; omega
    conv => whnf
    refine ⟨⟨rfl, ?_⟩⟩
    have : l' = l := by
      apply List.ext_getElem?
      intro j
      rcases Nat.lt_or_ge j l.length with h | h
      · exact g3 j (by omega)
      · rw [List.getElem?_eq_none (by omega), List.getElem?_eq_none h]
    show [[D.row _ LockX.ds l']] = [[D.row 6 LockX.ds l]]
    rw [this]
theorem toLockS_ok : FnOk Try.prog 85 (cCopyS 6 LockX.ds) := fnOk_of fun x => fn_at tab_ok (SOk.cons toLock_ok SOk.nil) mixed (fn := Try.f85) (code := body Try.f85) ⟨Try.func85, rfl, by kernel_rfl, by kernel_rfl, by kernel_rfl, by kernel_rfl⟩ (ev_toLockS x)
theorem ev_eqLockS : ∀ x, evFn tab [(116, (cEq LockX.ds))] (cEqS 6 LockX.ds) Try.f55 (body Try.f55) x := by
  rintro ⟨l, m⟩
  conv => whnf
  intro h1
  conv => whnf
  intro h2
  conv => whnf
  refine br2 (fun h3 => ?_) (fun h3 => ?_)
  · conv => whnf
    refine ⟨⟨rfl, ?_⟩⟩
    show _ = [[D.lf (.bool (eqX l m))]]
    have : l ≠ m := by rintro rfl; simp at h3
    rw [eqX_no.2 this]
  have hl : l.length = m.length := by
    replace h3 : ((l.length : Int) != (m.length : Int)) = false := h3
    simp at h3; omega
  conv => whnf
  refine ⟨fun k s h => ∃ i : Nat, i ≤ l.length ∧ (∀ j, j < i → l[j]? = m[j]?) ∧ k = l.length - i ∧ s = [(0, .sl 0 none), (1, .sl 16 none), (5, .lf (.int .i64 i))] ∧ h = [(0, some (.row .lent 6 LockX.ds l)), (16, some (.row .lent 6 LockX.ds m))],
    l.length, [(0, 0), (16, 16)], [(0, .sl 0 none), (1, .sl 16 none), (5, .lf (.int .i64 0))], [(0, some (.row .lent 6 LockX.ds l)), (16, some (.row .lent 6 LockX.ds m))], ⟨rfl, ⟨rfl, rfl, rfl, trivial⟩, ⟨rfl, rfl, trivial⟩⟩, ⟨0, by omega, fun j h => by omega, by omega, rfl, rfl⟩, ?_⟩
  rintro k _ _ ⟨i, g1, g2, rfl, rfl, rfl⟩
  conv => whnf
  intro h4
  conv => whnf
  refine br2 (fun h5 => ?_) (fun h5 => ?_)
  · have hi : i < l.length := by have := of_decide_eq_true h5; omega
    obtain ⟨y, hy⟩ : ∃ y, l[i]? = some y := ⟨_, List.getElem?_eq_getElem hi⟩
    have hy2 : nth l ((i : Nat) : Int).toNat = some y := by rw [nth_eq, Int.toNat_natCast]; exact hy
    obtain ⟨z, hz⟩ : ∃ z, m[i]? = some z := ⟨_, List.getElem?_eq_getElem (by omega)⟩
    have hz2 : nth m ((i : Nat) : Int).toNat = some z := by rw [nth_eq, Int.toNat_natCast]; exact hz
    conv => whnf
    refine ⟨Int.natCast_nonneg _, (show (i : Int) < (l.length : Int) by omega), ?_⟩
    conv => whnf
    refine ex2 y hy2 ?_
    conv => whnf
    refine ⟨Int.natCast_nonneg _, (show (i : Int) < (m.length : Int) by omega), ?_⟩
    conv => whnf
    refine ex2 z hz2 ?_
    conv => whnf
    refine ⟨(y, z), rfl, ?_⟩
    rintro _ _ ⟨rfl, rfl⟩
    conv => whnf
    refine br2 (fun h6 => ?_) (fun h6 => ?_)
    · replace h6 : (!eqX y z) = true := h6
      rw [Bool.not_eq_true', eqX_no] at h6
      conv => whnf
      refine ⟨⟨rfl, ?_⟩⟩
      show _ = [[D.lf (.bool (eqX l m))]]
      have : l ≠ m := by rintro rfl; rw [hy] at hz; cases hz; exact h6 rfl
      rw [eqX_no.2 this]
    · replace h6 : (!eqX y z) = false := h6
      rw [Bool.not_eq_false', eqX_iff] at h6
      conv => whnf
      refine ⟨l.length - (i + 1), [(0, 0), (16, 16)], [(0, .sl 0 none), (1, .sl 16 none), (5, .lf (.int .i64 ((i + 1 : Nat) : Int)))], [(0, some (.row .lent 6 LockX.ds l)), (16, some (.row .lent 6 LockX.ds m))], by omega, ⟨rfl, ⟨rfl, rfl, ?_, trivial⟩, ⟨rfl, rfl, trivial⟩⟩, i + 1, by omega, fun j hj => ?_, rfl, rfl, rfl⟩
      · show V.lf (.int .i64 (IntKind.i64.wrap ((i : Int) + 1))) = _
        replace h4 : l.length ≤ 9223372036854775807 := h4
        rw [w64 (by omega) (by omega)]; rfl
      · rcases Nat.lt_or_ge j i with h7 | h7
        · exact g2 j h7
        · obtain rfl : j = i := by omega
          rw [hy, hz, h6]
  · have hi : i = l.length := by have := of_decide_eq_false h5; omega
    conv => whnf
    refine ⟨⟨rfl, ?_⟩⟩
    show _ = [[D.lf (.bool (eqX l m))]]
    have : l = m := by
      apply List.ext_getElem?
      intro j
      rcases Nat.lt_or_ge j l.length with h | h
      · exact g2 j (by omega)
      · rw [List.getElem?_eq_none h, List.getElem?_eq_none (by omega)]
    rw [eqX_iff.2 this]
theorem eqLockS_ok : FnOk Try.prog 55 (cEqS 6 LockX.ds) := fnOk_of fun x => fn_at tab_ok (SOk.cons eqLock_ok SOk.nil) mixed (fn := Try.f55) (code := body Try.f55) ⟨Try.func55, rfl, by kernel_rfl, by kernel_rfl, by kernel_rfl, by kernel_rfl⟩ (ev_eqLockS x)
theorem ev_toPairS : ∀ x, evFn tab [(145, (cCopy RngX.ds))] (cCopyS 2 RngX.ds) Try.f108 (body Try.f108) x := by
  rintro ⟨l, hl⟩
  conv => whnf
  intro h1
  conv => whnf
  refine ⟨Int.natCast_nonneg _, rfl, ?_, ?_⟩
  · show (l.length : Int) ≤ (4294967296 : Nat); omega
  conv => whnf
  refine ⟨RngX, RngX.ds, rng0, fun _ => rfl, rfl, ?_⟩
  conv => whnf
  refine ⟨fun m s h => ∃ (i : Nat) (l' : List RngX), i ≤ l.length ∧ l'.length = l.length ∧ (∀ j, j < i → l'[j]? = l[j]?) ∧ m = l.length - i ∧ s = [(0, .sl 0 none), (3, .sl 112 none), (4, .lf (.int .i64 i))] ∧ h = [(112, some (.row .own 2 RngX.ds l')), (0, some (.row .lent 2 RngX.ds l))],
    l.length, [(112, 112), (0, 0)], [(0, .sl 0 none), (3, .sl 112 none), (4, .lf (.int .i64 0))], [(112, some (.row .own 2 RngX.ds (List.replicate (l.length : Int).toNat rng0))), (0, some (.row .lent 2 RngX.ds l))], ⟨rfl, ⟨rfl, rfl, rfl, trivial⟩, ⟨rfl, rfl, trivial⟩⟩,
    ⟨0, _, by omega, by rw [List.length_replicate, Int.toNat_natCast], fun j h => by omega, by omega, rfl, rfl⟩, ?_⟩
  rintro m _ _ ⟨i, l', g1, g2, g3, rfl, rfl, rfl⟩
  conv => whnf
  intro _
  conv => whnf
  refine br2 (fun h5 => ?_) (fun h5 => ?_)
  · have hi : i < l.length := by have := of_decide_eq_true h5; omega
    obtain ⟨y, hy⟩ : ∃ y, l[i]? = some y := ⟨_, List.getElem?_eq_getElem hi⟩
    have hy2 : nth l ((i : Nat) : Int).toNat = some y := by rw [nth_eq, Int.toNat_natCast]; exact hy
    obtain ⟨z, hz⟩ : ∃ z, l'[i]? = some z := ⟨_, List.getElem?_eq_getElem (by omega)⟩
    have hz2 : nth l' ((i : Nat) : Int).toNat = some z := by rw [nth_eq, Int.toNat_natCast]; exact hz
    conv => whnf
    refine ⟨Int.natCast_nonneg _, (show (i : Int) < (l.length : Int) by omega), ?_⟩
    conv => whnf
    refine ex2 y hy2 ?_
    conv => whnf
    refine ⟨y, rfl, ?_⟩
    rintro _ _ ⟨rfl, rfl⟩
    conv => whnf
    refine ⟨Int.natCast_nonneg _, (show (i : Int) < (l'.length : Int) by omega), ?_⟩
    conv => whnf
    refine ex2 z hz2 ?_
    conv => whnf
    refine ⟨y, rfl, ?_⟩
    conv => whnf
    refine ⟨l.length - (i + 1), [(112, 112), (0, 0)], [(0, .sl 0 none), (3, .sl 112 none), (4, .lf (.int .i64 ((i + 1 : Nat) : Int)))], [(112, some (.row .own 2 RngX.ds (l'.set (i : Int).toNat y))), (0, some (.row .lent 2 RngX.ds l))], by omega, ⟨rfl, ⟨rfl, rfl, ?_, trivial⟩, ⟨rfl, rfl, trivial⟩⟩, i + 1, _, by omega, ?_, fun j hj => ?_, rfl, rfl, rfl⟩
    · show V.lf (.int .i64 (IntKind.i64.wrap ((i : Int) + 1))) = _
      rw [w64 (by omega) (by omega)]; rfl
    · rw [List.length_set]; exact g2
    · rw [Int.toNat_natCast, set_at (by omega)]
      split
      · rename_i e; subst e; exact hy.symm
      · exact g3 j (by omega)
  · have hi : i = l.length := by have := of_decide_eq_false h5; omega
    conv => whnf
    refine ⟨⟨rfl, ?_⟩⟩
    have : l' = l := by
      apply List.ext_getElem?
      intro j
      rcases Nat.lt_or_ge j l.length with h | h
      · exact g3 j (by omega)
      · rw [List.getElem?_eq_none (by omega), List.getElem?_eq_none h]
    show [[D.row _ RngX.ds l']] = [[D.row 2 RngX.ds l]]
    rw [this]
theorem toPairS_ok : FnOk Try.prog 108 (cCopyS 2 RngX.ds) := fnOk_of fun x => fn_at tab_ok (SOk.cons toPair_ok SOk.nil) mixed (fn := Try.f108) (code := body Try.f108) ⟨Try.func108, rfl, by kernel_rfl, by kernel_rfl, by kernel_rfl, by kernel_rfl⟩ (ev_toPairS x)
theorem ev_eqPairS : ∀ x, evFn tab [(150, (cEq RngX.ds))] (cEqS 2 RngX.ds) Try.f113 (body Try.f113) x := by
  rintro ⟨l, m⟩
  conv => whnf
  intro h1
  conv => whnf
  intro h2
  conv => whnf
  refine br2 (fun h3 => ?_) (fun h3 => ?_)
  · conv => whnf
    refine ⟨⟨rfl, ?_⟩⟩
    show _ = [[D.lf (.bool (eqX l m))]]
    have : l ≠ m := by rintro rfl; simp at h3
    rw [eqX_no.2 this]
  have hl : l.length = m.length := by
    replace h3 : ((l.length : Int) != (m.length : Int)) = false := h3
    simp at h3; omega
  conv => whnf
  refine ⟨fun k s h => ∃ i : Nat, i ≤ l.length ∧ (∀ j, j < i → l[j]? = m[j]?) ∧ k = l.length - i ∧ s = [(0, .sl 0 none), (1, .sl 16 none), (5, .lf (.int .i64 i))] ∧ h = [(0, some (.row .lent 2 RngX.ds l)), (16, some (.row .lent 2 RngX.ds m))],
    l.length, [(0, 0), (16, 16)], [(0, .sl 0 none), (1, .sl 16 none), (5, .lf (.int .i64 0))], [(0, some (.row .lent 2 RngX.ds l)), (16, some (.row .lent 2 RngX.ds m))], ⟨rfl, ⟨rfl, rfl, rfl, trivial⟩, ⟨rfl, rfl, trivial⟩⟩, ⟨0, by omega, fun j h => by omega, by omega, rfl, rfl⟩, ?_⟩
  rintro k _ _ ⟨i, g1, g2, rfl, rfl, rfl⟩
  conv => whnf
  intro h4
  conv => whnf
  refine br2 (fun h5 => ?_) (fun h5 => ?_)
  · have hi : i < l.length := by have := of_decide_eq_true h5; omega
    obtain ⟨y, hy⟩ : ∃ y, l[i]? = some y := ⟨_, List.getElem?_eq_getElem hi⟩
    have hy2 : nth l ((i : Nat) : Int).toNat = some y := by rw [nth_eq, Int.toNat_natCast]; exact hy
    obtain ⟨z, hz⟩ : ∃ z, m[i]? = some z := ⟨_, List.getElem?_eq_getElem (by omega)⟩
    have hz2 : nth m ((i : Nat) : Int).toNat = some z := by rw [nth_eq, Int.toNat_natCast]; exact hz
    conv => whnf
    refine ⟨Int.natCast_nonneg _, (show (i : Int) < (l.length : Int) by omega), ?_⟩
    conv => whnf
    refine ex2 y hy2 ?_
    conv => whnf
    refine ⟨Int.natCast_nonneg _, (show (i : Int) < (m.length : Int) by omega), ?_⟩
    conv => whnf
    refine ex2 z hz2 ?_
    conv => whnf
    refine ⟨(y, z), rfl, ?_⟩
    rintro _ _ ⟨rfl, rfl⟩
    conv => whnf
    refine br2 (fun h6 => ?_) (fun h6 => ?_)
    · replace h6 : (!eqX y z) = true := h6
      rw [Bool.not_eq_true', eqX_no] at h6
      conv => whnf
      refine ⟨⟨rfl, ?_⟩⟩
      show _ = [[D.lf (.bool (eqX l m))]]
      have : l ≠ m := by rintro rfl; rw [hy] at hz; cases hz; exact h6 rfl
      rw [eqX_no.2 this]
    · replace h6 : (!eqX y z) = false := h6
      rw [Bool.not_eq_false', eqX_iff] at h6
      conv => whnf
      refine ⟨l.length - (i + 1), [(0, 0), (16, 16)], [(0, .sl 0 none), (1, .sl 16 none), (5, .lf (.int .i64 ((i + 1 : Nat) : Int)))], [(0, some (.row .lent 2 RngX.ds l)), (16, some (.row .lent 2 RngX.ds m))], by omega, ⟨rfl, ⟨rfl, rfl, ?_, trivial⟩, ⟨rfl, rfl, trivial⟩⟩, i + 1, by omega, fun j hj => ?_, rfl, rfl, rfl⟩
      · show V.lf (.int .i64 (IntKind.i64.wrap ((i : Int) + 1))) = _
        replace h4 : l.length ≤ 9223372036854775807 := h4
        rw [w64 (by omega) (by omega)]; rfl
      · rcases Nat.lt_or_ge j i with h7 | h7
        · exact g2 j h7
        · obtain rfl : j = i := by omega
          rw [hy, hz, h6]
  · have hi : i = l.length := by have := of_decide_eq_false h5; omega
    conv => whnf
    refine ⟨⟨rfl, ?_⟩⟩
    show _ = [[D.lf (.bool (eqX l m))]]
    have : l = m := by
      apply List.ext_getElem?
      intro j
      rcases Nat.lt_or_ge j l.length with h | h
      · exact g2 j (by omega)
      · rw [List.getElem?_eq_none h, List.getElem?_eq_none (by omega)]
    rw [eqX_iff.2 this]
theorem eqPairS_ok : FnOk Try.prog 113 (cEqS 2 RngX.ds) := fnOk_of fun x => fn_at tab_ok (SOk.cons eqPair_ok SOk.nil) mixed (fn := Try.f113) (code := body Try.f113) ⟨Try.func113, rfl, by kernel_rfl, by kernel_rfl, by kernel_rfl, by kernel_rfl⟩ (ev_eqPairS x)

/-! Held and waiting locks -/
structure LocksX where
  held : List LockX
  wait : List LockX
def LocksX.ds (x : LocksX) : List D := [.row 6 LockX.ds x.held, .row 6 LockX.ds x.wait]
def locksB0 (x : LocksX) : Prop := (x.held.length ≤ 9223372036854775807 ∧ ∀ y ∈ x.held, lockB0 y) ∧ (x.wait.length ≤ 9223372036854775807 ∧ ∀ y ∈ x.wait, lockB0 y)
def locksB (x : LocksX) : Prop := x.held.length + x.wait.length ≤ 1048576 ∧ (∀ y ∈ x.held, lockB y) ∧ ∀ y ∈ x.wait, lockB y
theorem ev_szLocks : ∀ x, evFn tab [(81, (cSzS 6 LockX.ds lockB0 lockB))] (cSz LocksX.ds locksB0 locksB) Try.f27 (body Try.f27) x := by
  rintro ⟨⟨l, m⟩, left, h1, h2, hb1, hb2⟩
  conv => whnf
  refine ⟨⟨l, left, h1, h2, hb1⟩, rfl, ?_⟩
  rintro _ _ ⟨rfl, k, rfl, k1, k2, k3⟩
  replace k2 : k ≤ left := k2
  conv => whnf
  refine br2 (fun h3 => ?_) (fun h3 => ?_)
  · conv => whnf
    exact ⟨⟨rfl, -1, rfl, by omega, (show (-1 : Int) ≤ left by omega), fun h => by omega⟩⟩
  · have h3' := of_decide_eq_false h3
    obtain ⟨k4, k5⟩ := k3 (by omega)
    replace k4 : (l.length : Int) + k ≤ left := k4
    conv => whnf
    refine ⟨⟨m, k, by omega, by omega, hb2⟩, rfl, ?_⟩
    rintro _ _ ⟨rfl, k', rfl, j1, j2, j3⟩
    replace j2 : k' ≤ k := j2
    conv => whnf
    refine br2 (fun h4 => ?_) (fun h4 => ?_)
    · conv => whnf
      exact ⟨⟨rfl, -1, rfl, by omega, (show (-1 : Int) ≤ left by omega), fun h => by omega⟩⟩
    · have h4' := of_decide_eq_false h4
      obtain ⟨j4, j5⟩ := j3 (by omega)
      replace j4 : (m.length : Int) + k' ≤ k := j4
      conv => whnf
      exact ⟨⟨rfl, k', rfl, by omega, (show k' ≤ left by omega), fun _ => (⟨by omega, k5, j5⟩ : l.length + m.length ≤ 1048576 ∧ (∀ y ∈ l, lockB y) ∧ ∀ y ∈ m, lockB y)⟩⟩
theorem szLocks_ok : FnOk Try.prog 27 (cSz LocksX.ds locksB0 locksB) := fnOk_of fun x => fn_at tab_ok (SOk.cons szLockS_ok SOk.nil) mixed (fn := Try.f27) (code := body Try.f27) ⟨Try.func27, rfl, by kernel_rfl, by kernel_rfl, by kernel_rfl, by kernel_rfl⟩ (ev_szLocks x)
structure LocksY where
  x : LocksX
  h1 : x.held.length ≤ 1048576
  h2 : x.wait.length ≤ 1048576
def cToLocks : Con := pureC LocksY [(.rd, true)] [true] (fun x => [x.x.ds]) (fun x => [x.x.ds])
theorem ev_toLocks : ∀ x, evFn tab [(85, (cCopyS 6 LockX.ds))] cToLocks Try.f29 (body Try.f29) x := by
  rintro ⟨⟨l, m⟩, h1, h2⟩
  conv => whnf
  refine ⟨⟨l, h1⟩, rfl, ?_⟩
  rintro _ _ ⟨rfl, rfl⟩
  conv => whnf
  refine ⟨⟨m, h2⟩, rfl, ?_⟩
  rintro _ _ ⟨rfl, rfl⟩
  conv => whnf
  exact ⟨⟨rfl, rfl⟩⟩
theorem toLocks_ok : FnOk Try.prog 29 cToLocks := fnOk_of fun x => fn_at tab_ok (SOk.cons toLockS_ok SOk.nil) mixed (fn := Try.f29) (code := body Try.f29) ⟨Try.func29, rfl, by kernel_rfl, by kernel_rfl, by kernel_rfl, by kernel_rfl⟩ (ev_toLocks x)
theorem ev_eqLocks : ∀ x, evFn tab [(55, (cEqS 6 LockX.ds))] (cEq LocksX.ds) Try.f31 (body Try.f31) x := by
  rintro ⟨⟨a, b⟩, ⟨c, d⟩⟩
  repeat' ((conv => whnf); first | refine br2 (fun h => ?_) (fun h => ?_) | (refine ⟨(a, c), rfl, ?_⟩; rintro _ _ ⟨rfl, rfl⟩) | (refine ⟨(b, d), rfl, ?_⟩; rintro _ _ ⟨rfl, rfl⟩))
  all_goals (conv => whnf)
  all_goals refine ⟨⟨rfl, ?_⟩⟩
  all_goals show _ = [[D.lf (.bool (eqX (⟨a, b⟩ : LocksX) ⟨c, d⟩))]]
  all_goals congr 4
  all_goals rw [eq_comm]
  all_goals simp_all [eqX_iff, eqX_no]
theorem eqLocks_ok : FnOk Try.prog 31 (cEq LocksX.ds) := fnOk_of fun x => fn_at tab_ok (SOk.cons eqLockS_ok SOk.nil) mixed (fn := Try.f31) (code := body Try.f31) ⟨Try.func31, rfl, by kernel_rfl, by kernel_rfl, by kernel_rfl, by kernel_rfl⟩ (ev_eqLocks x)
end Go.Vm
namespace Go.Vm
open Go.Proofs
set_option maxRecDepth 100000
set_option linter.unusedVariables false
set_option linter.unusedSimpArgs false

def numL (n : Nat) : List UInt8 := if n < 10 then [UInt8.ofNat (48 + n)] else numL (n / 10) ++ [UInt8.ofNat (48 + n % 10)]
theorem numL_lt {n : Nat} (h : n < 10) : numL n = [UInt8.ofNat (48 + n)] := by rw [numL, if_pos h]
theorem numL_ge {n : Nat} (h : ¬ n < 10) : numL n = numL (n / 10) ++ [UInt8.ofNat (48 + n % 10)] := by rw [numL, if_neg h]
theorem numL_len {n k : Nat} (h : n < 10 ^ (k + 1)) : (numL n).length ≤ k + 1 := by
  induction k generalizing n with
  | zero => rw [numL_lt (by simpa using h)]; simp
  | succ k ih =>
    by_cases h0 : n < 10
    · rw [numL_lt h0]; simp
    · rw [numL_ge h0]
      have := ih (n := n / 10) (by rw [Nat.pow_succ] at h; exact Nat.div_lt_of_lt_mul (by omega))
      simp; omega
theorem numL_pos (n : Nat) : 1 ≤ (numL n).length := by
  by_cases h : n < 10
  · rw [numL_lt h]; simp
  · rw [numL_ge h]; simp
def numT (n : Int) : ByteArray := if numB n then ofB (numL n.toNat) else ⟨#[]⟩
theorem numT_no {n : Int} (h : numB n = false) : numT n = ⟨#[]⟩ := by rw [numT, if_neg (by rw [h]; simp)]
theorem numT_yes {k : Nat} (h : k ≤ 1099511627775) : numT (k : Int) = ofB (numL k) := by rw [numT, if_pos (by simp [numB]; omega), Int.toNat_natCast]
theorem numT_size (n : Int) : (numT n).size ≤ 13 := by
  unfold numT
  split
  · rename_i h
    rw [of_size]
    have : n.toNat < 10 ^ 13 := by simp [numB] at h; omega
    exact numL_len (k := 12) this
  · decide
def cNumText : Con := pureC IX [(.rd, false)] [false] (fun x => [[.lf (.int .i64 x.n)]]) (fun x => [[.lf (.string (numT x.n))]])
theorem dig_u8 {n : Int} {k : Nat} (h : n = k) (hk : k < 208) : IntKind.u8.wrap (IntKind.i64.wrap (48 + n)) = ((UInt8.ofNat (48 + k)).toNat : Int) := by
  subst h
  exact u8_of (k := 48 + k) (by rw [w64 (by omega) (by omega)]; omega) (by omega)
theorem ev_sNumText : ∀ n x, (fun x => x.n.toNat) x = n → evFnX tab [(158, cNumText.below (fun x => x.n.toNat) n), (106, cNum)] cNumText Try.f158 (body Try.f158) x := by
  rintro q ⟨n, h1, h2⟩ rfl
  conv => whnf
  refine ⟨⟨n, h1, h2⟩, rfl, ?_⟩
  rintro _ _ ⟨rfl, rfl⟩
  conv => whnf
  refine br2 (fun h3 => ?_) (fun h3 => ?_)
  · have h3' : numB n = false := by simpa using h3
    conv => whnf
    refine ⟨⟨rfl, ?_⟩⟩
    show _ = [[D.lf (.string (numT n))]]
    rw [numT_no h3']
  have h3' : numB n = true := by simpa using h3
  obtain ⟨h4, h5⟩ : 0 ≤ n ∧ n ≤ 1099511627775 := by simpa [numB] using h3'
  obtain ⟨k, rfl⟩ : ∃ k : Nat, n = k := ⟨n.toNat, by omega⟩
  conv => whnf
  refine br2 (fun h6 => ?_) (fun h6 => ?_)
  · have h6' : k < 10 := by have h6' : (k : Int) < 10 := of_decide_eq_true h6; omega
    conv => whnf
    refine ⟨[UInt8.ofNat (48 + k)], by
      show [[D.lf (.int .u8 (IntKind.u8.wrap (IntKind.i64.wrap (48 + (k : Int)))))]] = _
      rw [dig_u8 rfl (by omega)]; rfl, ?_⟩
    conv => whnf
    refine ⟨⟨rfl, ?_⟩⟩
    show _ = [[D.lf (.string (numT (k : Int)))]]
    rw [numT_yes (by omega), numL_lt h6']; rfl
  have h6' : ¬ k < 10 := by have h6' : ¬ (k : Int) < 10 := of_decide_eq_false h6; omega
  have hd : IntKind.i64.wrap ((k : Int).tdiv 10) = ((k / 10 : Nat) : Int) := by rw [tdiv10, w64 (by omega) (by omega)]
  have hE : [[D.lf (.int .u8 (IntKind.u8.wrap (IntKind.i64.wrap (48 + (k : Int).tmod 10))))]] = [UInt8.ofNat (48 + k % 10)].map encB := by
    rw [dig_u8 (tmod10 k) (by omega)]; rfl
  have hI : [[D.lf (.int .i64 ((k / 10 : Nat) : Int))]] = [[D.lf (.int .i64 (IntKind.i64.wrap ((k : Int).tdiv 10)))]] := by rw [hd]
  have hs := numT_size ((k / 10 : Nat) : Int)
  have hF : [[D.lf (.string (numT ((k / 10 : Nat) : Int) ++ ⟨[UInt8.ofNat (48 + k % 10)].toArray⟩))]] = [[D.lf (.string (numT (k : Int)))]] := by
    rw [numT_yes (k := k) (by omega), numT_yes (k := k / 10) (by omega), numL_ge h6']
    congr 4
  repeat' ((conv => whnf); first
    | refine rc_i rfl ?_
    | refine rc_i ⟨_, hE, rfl⟩ ?_
    | refine ⟨_, hE, ?_⟩
    | (refine ⟨⟨⟨((k / 10 : Nat) : Int), by omega, by omega⟩, (show ((k / 10 : Nat) : Int).toNat < (k : Int).toNat by omega)⟩, hI, ?_⟩; rintro _ _ ⟨rfl, rfl⟩)
    | refine ⟨(show (numT ((k / 10 : Nat) : Int)).size + 1 ≤ 4294967296 by omega), ?_⟩
    | exact ⟨⟨rfl, hF⟩⟩
    | refine ⟨?_, ?_⟩)
theorem sNumText_ok : FnOk Try.prog 158 cNumText := fn_rec (fun x => x.n.toNat) fun n hs x hx => fnX_at tab_ok (SOk.cons hs (SOk.cons l01Num_ok SOk.nil)) mixed (fn := Try.f158) (code := body Try.f158) ⟨Try.func158, rfl, by kernel_rfl, by kernel_rfl, by kernel_rfl, by kernel_rfl⟩ (ev_sNumText n x hx)
end Go.Vm
namespace Go.Vm
open Go.Proofs
set_option maxRecDepth 100000
set_option linter.unusedVariables false
set_option linter.unusedSimpArgs false

structure CurX where
  b : List UInt8
  i : Int
  h : Int
  hb : b.length ≤ 1048576
  h1 : 0 ≤ i
  h2 : i ≤ b.length
  h3 : -9223372036854775808 ≤ h
  h4 : h ≤ 9223372036854775807
def CurX.d (c : CurX) : D := .box [.sh (.row 1 encB c.b), .lf (.int .i64 c.i), .lf (.int .i64 c.h)]
theorem wrap_lo (n : Int) : -9223372036854775808 ≤ IntKind.i64.wrap n := by simp [IntKind.wrap, IntKind.bits, IntKind.signed]; omega
theorem wrap_hi (n : Int) : IntKind.i64.wrap n ≤ 9223372036854775807 := by simp [IntKind.wrap, IntKind.bits, IntKind.signed]; omega
theorem and255 (a : Int) : 0 ≤ IntKind.i64.wrap ((BitVec.ofInt 64 a &&& BitVec.ofInt 64 255).toNat : Int) ∧ IntKind.i64.wrap ((BitVec.ofInt 64 a &&& BitVec.ofInt 64 255).toNat : Int) ≤ 255 := by
  have h : (BitVec.ofInt 64 a &&& BitVec.ofInt 64 255).toNat ≤ 255 := by
    rw [BitVec.toNat_and]
    exact Nat.le_trans Nat.and_le_right (by decide)
  rw [w64 (by omega) (by omega)]; omega
/-- What a draw of a number tells: it is within bounds. -/
def cByte : Con := { X := CurX, params := [(.mut, false)], res := [false], resOwn := true, ins := fun c => [[c.d]], post := fun _ outs r => ∃ (c : CurX) (v : Int), outs = [[c.d]] ∧ r = [[.lf (.int .i64 v)]] ∧ 0 ≤ v ∧ v ≤ 255 }
structure CodeX where
  b : List UInt8
  hb : b.length ≤ 1048576
def cNew : Con := { X := CodeX, params := [(.keep, false)], res := [false], resOwn := true, ins := fun c => [[.row 1 encB c.b]], post := fun _ outs r => outs = [] ∧ ∃ c : CurX, r = [[c.d]] }
theorem ev_l01New : ∀ x, evFnX tab [] cNew Try.f61 (body Try.f61) x := by
  rintro ⟨l, hb⟩
  conv => whnf
  intro _
  conv => whnf
  have hw : IntKind.i64.wrap (789392 + (l.length : Int)) = 789392 + (l.length : Int) := w64 (by omega) (by omega)
  refine ⟨fun m s h => ∃ (i : Nat) (q : Int), i ≤ l.length ∧ m = l.length - i ∧ -9223372036854775808 ≤ q ∧ q ≤ 9223372036854775807 ∧ s = [(0, .sl 0 none), (3, .lf (.int .i64 q)), (4, .lf (.int .i64 i))] ∧ h = [(0, some (.row .ro 1 encB l))],
    l.length, [(0, 0)], [(0, .sl 0 none), (3, .lf (.int .i64 _)), (4, .lf (.int .i64 0))], [(0, some (.row .ro 1 encB l))], ⟨rfl, ⟨rfl, rfl, rfl, trivial⟩, rfl, trivial⟩, ⟨0, _, by omega, by omega, wrap_lo _, wrap_hi _, rfl, rfl⟩, ?_⟩
  rintro m _ _ ⟨i, q, g1, rfl, g2, g3, rfl, rfl⟩
  conv => whnf
  intro _
  conv => whnf
  have out : ∃ c : CurX, [[D.box [.sh (.row 1 encB l), .lf (.int .i64 0), .lf (.int .i64 q)]]] = [[c.d]] := ⟨⟨l, 0, q, hb, by omega, by omega, g2, g3⟩, rfl⟩
  refine br2 (fun h5 => ?_) (fun h5 => ?_)
  · have hi : i < l.length := by have := of_decide_eq_true h5; omega
    obtain ⟨y, hy⟩ := getL hi
    conv => whnf
    refine br2 (fun h6 => ?_) (fun h6 => ?_)
    · conv => whnf
      refine ⟨Int.natCast_nonneg _, (show (i : Int) < (l.length : Int) by omega), ?_⟩
      conv => whnf
      refine ex2 y (nthI hy) ?_
      conv => whnf
      refine ⟨l.length - (i + 1), [(0, 0)], [(0, .sl 0 none), (3, .lf (.int .i64 _)), (4, .lf (.int .i64 ((i + 1 : Nat) : Int)))], [(0, some (.row .ro 1 encB l))], by omega, ⟨rfl, ⟨rfl, rfl, ?_, trivial⟩, rfl, trivial⟩, i + 1, _, by omega, rfl, wrap_lo _, wrap_hi _, rfl, rfl⟩
      show V.lf (.int .i64 (IntKind.i64.wrap ((i : Int) + 1))) = _
      rw [w64 (by omega) (by omega)]; rfl
    · conv => whnf
      exact ⟨⟨rfl, out⟩⟩
  · conv => whnf
    exact ⟨⟨rfl, out⟩⟩
theorem l01New_ok : FnOk Try.prog 61 cNew := fnOk_of fun x => fnX_at tab_ok (SOk.nil) mixed (fn := Try.f61) (code := body Try.f61) ⟨Try.func61, rfl, by kernel_rfl, by kernel_rfl, by kernel_rfl, by kernel_rfl⟩ (ev_l01New x)
theorem ev_l01Byte : ∀ x, evFnX tab [] cByte Try.f156 (body Try.f156) x := by
  rintro ⟨l, i, q, hb, h1, h2, h3, h4⟩
  replace hb : l.length ≤ 1048576 := hb
  replace h2 : i ≤ (l.length : Int) := h2
  conv => whnf
  intro _
  conv => whnf
  refine br2 (fun h5 => ?_) (fun h5 => ?_)
  · have hi : i < (l.length : Int) := of_decide_eq_true h5
    obtain ⟨y, hy⟩ := getL (l := l) (j := i.toNat) (by omega)
    have hy2 : nth l i.toNat = some y := by rw [nth_eq]; exact hy
    conv => whnf
    refine ⟨h1, hi, ?_⟩
    conv => whnf
    refine ex2 y hy2 ?_
    conv => whnf
    repeat (refine rc_i rfl ?_; conv => whnf)
    have e1 : IntKind.i64.wrap (i + 1) = i + 1 := w64 (by omega) (by omega)
    refine ⟨⟨⟨l, IntKind.i64.wrap (i + 1), IntKind.i64.wrap (IntKind.i64.wrap (q * 6364136223846793005) + 1442695040888963407), hb, by omega, by omega, wrap_lo _, wrap_hi _⟩, _, rfl, rfl, (and255 _).1, (and255 _).2⟩⟩
  · conv => whnf
    exact ⟨⟨⟨l, i, _, hb, h1, h2, wrap_lo _, wrap_hi _⟩, _, rfl, rfl, (and255 _).1, (and255 _).2⟩⟩
theorem l01Byte_ok : FnOk Try.prog 156 cByte := fnOk_of fun x => fnX_at tab_ok (SOk.nil) mixed (fn := Try.f156) (code := body Try.f156) ⟨Try.func156, rfl, by kernel_rfl, by kernel_rfl, by kernel_rfl, by kernel_rfl⟩ (ev_l01Byte x)
structure BelowX where
  c : CurX
  n : Int
  h : n ≤ 9223372036854775807
def cBelow : Con := { X := BelowX, params := [(.mut, false), (.rd, false)], res := [false], resOwn := true, ins := fun x => [[x.c.d], [.lf (.int .i64 x.n)]], post := fun x outs r => ∃ (c : CurX) (v : Int), outs = [[c.d]] ∧ r = [[.lf (.int .i64 v)]] ∧ 0 ≤ v ∧ (0 < x.n → v < x.n) ∧ (x.n ≤ 0 → v = 0) }
theorem ev_l01Below : ∀ x, evFnX tab [(156, cByte)] cBelow Try.f120 (body Try.f120) x := by
  rintro ⟨c, n, h⟩
  conv => whnf
  refine br2 (fun h5 => ?_) (fun h5 => ?_)
  · have h5' : n ≤ 0 := of_decide_eq_true h5
    conv => whnf
    exact ⟨⟨c, 0, rfl, rfl, by omega, fun h => absurd h (show ¬ 0 < n by omega), fun _ => rfl⟩⟩
  have h5' : 0 < n := by have h6 : ¬ n ≤ 0 := of_decide_eq_false h5; omega
  have hrem : ∀ a : Int, 0 ≤ a → 0 ≤ a.tmod n ∧ a.tmod n < n := fun a ha => ⟨Int.tmod_nonneg _ ha, Int.tmod_lt_of_pos _ h5'⟩
  conv => whnf
  refine br2 (fun h6 => ?_) (fun h6 => ?_)
  · conv => whnf
    refine ⟨c, rfl, ?_⟩
    rintro _ _ ⟨c1, v1, rfl, rfl, a1, b1⟩
    conv => whnf
    refine br2 (fun h7 => ?_) (fun h7 => ?_)
    · exfalso; have : n = 0 := of_decide_eq_true h7; omega
    conv => whnf
    exact ⟨⟨c1, v1.tmod n, rfl, rfl, (hrem v1 a1).1, fun _ => (hrem v1 a1).2, fun h => absurd h (show ¬ n ≤ 0 by omega)⟩⟩
  conv => whnf
  refine ⟨c, rfl, ?_⟩
  rintro _ _ ⟨c1, v1, rfl, rfl, a1, b1⟩
  conv => whnf
  refine ⟨c1, rfl, ?_⟩
  rintro _ _ ⟨c2, v2, rfl, rfl, a2, b2⟩
  conv => whnf
  refine ⟨c2, rfl, ?_⟩
  rintro _ _ ⟨c3, v3, rfl, rfl, a3, b3⟩
  conv => whnf
  refine ⟨c3, rfl, ?_⟩
  rintro _ _ ⟨c4, v4, rfl, rfl, a4, b4⟩
  conv => whnf
  refine br2 (fun h7 => ?_) (fun h7 => ?_)
  · exfalso; have : n = 0 := of_decide_eq_true h7; omega
  conv => whnf
  have e1 : 0 ≤ IntKind.i64.wrap (IntKind.i64.wrap (IntKind.i64.wrap (IntKind.i64.wrap (v1 * 16777216) + IntKind.i64.wrap (v2 * 65536)) + IntKind.i64.wrap (v3 * 256)) + v4) := by
    rw [w64 (n := v1 * 16777216) (by omega) (by omega), w64 (n := v2 * 65536) (by omega) (by omega), w64 (n := v3 * 256) (by omega) (by omega), w64 (n := v1 * 16777216 + v2 * 65536) (by omega) (by omega),
      w64 (n := v1 * 16777216 + v2 * 65536 + v3 * 256) (by omega) (by omega), w64 (by omega) (by omega)]
    omega
  exact ⟨⟨c4, _, rfl, rfl, (hrem _ e1).1, fun _ => (hrem _ e1).2, fun h => absurd h (show ¬ n ≤ 0 by omega)⟩⟩
theorem l01Below_ok : FnOk Try.prog 120 cBelow := fnOk_of fun x => fnX_at tab_ok (SOk.cons l01Byte_ok SOk.nil) mixed (fn := Try.f120) (code := body Try.f120) ⟨Try.func120, rfl, by kernel_rfl, by kernel_rfl, by kernel_rfl, by kernel_rfl⟩ (ev_l01Below x)
/-- A draw: what it tells has property P. -/
def cDraw {α : Type} (g : Bool) (enc : α → List D) (P : α → Prop) : Con := { X := CurX, params := [(.mut, false)], res := [g], resOwn := true, ins := fun c => [[c.d]], post := fun _ outs r => ∃ (c : CurX) (a : α), outs = [[c.d]] ∧ r = [enc a] ∧ P a }
def intE (n : Int) : List D := [.lf (.int .i64 n)]
def strE (s : ByteArray) : List D := [.lf (.string s)]
/-- One of a few texts, of a few numbers. -/
def strEls (k : Nat) : List (List V) → Bool
  | [] => true
  | [.lf (.string s)] :: r => match Nat.ble s.size k with | true => strEls k r | false => false
  | _ => false
def intEls : List (List V) → Bool
  | [] => true
  | [.lf (.int .i64 n)] :: r => match decide (-9223372036854775808 ≤ n), decide (n ≤ 9223372036854775807) with | true, true => intEls r | _, _ => false
  | _ => false
theorem exStr (k : Nat) {els : List (List V)} {i : Nat} {Q : List V → Prop} (ha : strEls k els = true) (hi : i < els.length) (h : ∀ s : ByteArray, s.size ≤ k → Q [.lf (.string s)]) : ex (nth els i) Q := by
  induction els generalizing i with
  | nil => simp at hi
  | cons e r ih =>
    unfold strEls at ha
    split at ha
    · rename_i h0; cases h0
    · rename_i s r' h0
      cases h0
      split at ha
      · rename_i hs
        cases i with
        | zero => exact h s (Nat.le_of_ble_eq_true hs)
        | succ i => exact ih ha (by simpa using hi)
      · cases ha
    · cases ha
theorem exInt {els : List (List V)} {i : Nat} {Q : List V → Prop} (ha : intEls els = true) (hi : i < els.length) (h : ∀ n : Int, -9223372036854775808 ≤ n → n ≤ 9223372036854775807 → Q [.lf (.int .i64 n)]) : ex (nth els i) Q := by
  induction els generalizing i with
  | nil => simp at hi
  | cons e r ih =>
    unfold intEls at ha
    split at ha
    · rename_i h0; cases h0
    · rename_i s r' h0
      cases h0
      split at ha
      · rename_i hs1 hs2
        cases i with
        | zero => exact h s (of_decide_eq_true hs1) (of_decide_eq_true hs2)
        | succ i => exact ih ha (by simpa using hi)
      · cases ha
    · cases ha
def intP (n : Int) : Prop := -9223372036854775808 ≤ n ∧ n ≤ 9223372036854775807
def strP (k : Nat) (s : ByteArray) : Prop := s.size ≤ k
theorem useBelow {c : CurX} {n : Int} {ds : List (List D)} {Q : List (List D) → List (List D) → Prop} (hd : [[c.d], [.lf (.int .i64 n)]] = ds) (hn : n ≤ 9223372036854775807)
    (h : ∀ (c' : CurX) (v : Int), 0 ≤ v → (0 < n → v < n) → (n ≤ 0 → v = 0) → Q [[c'.d]] [[.lf (.int .i64 v)]]) : ∃ x, cBelow.ins x = ds ∧ ∀ outs res, cBelow.post x outs res → Q outs res := by
  refine ⟨⟨c, n, hn⟩, hd, ?_⟩
  rintro _ _ ⟨c1, v, rfl, rfl, a1, a2, a3⟩
  exact h c1 v a1 a2 a3
theorem useDraw {α : Type} {g : Bool} {enc : α → List D} {P : α → Prop} {c : CurX} {ds : List (List D)} {Q : List (List D) → List (List D) → Prop} (hd : [[c.d]] = ds)
    (h : ∀ (c' : CurX) (a : α), P a → Q [[c'.d]] [enc a]) : ∃ x, (cDraw g enc P).ins x = ds ∧ ∀ outs res, (cDraw g enc P).post x outs res → Q outs res := by
  refine ⟨c, hd, ?_⟩
  rintro _ _ ⟨c1, a, rfl, rfl, a1⟩
  exact h c1 a a1
theorem ev_l08User : ∀ x, evFnX tab [(120, cBelow)] (cDraw false strE (strP 16)) Try.f162 (body Try.f162) x := by
  intro c
  conv => whnf
  refine useBelow (c := c) (n := 24) rfl (by decide) fun c v a1 a2 _ => ?_
  replace a2 : v < 24 := a2 (by decide)
  conv => whnf
  have h1 : 0 ≤ v.tmod 12 := Int.tmod_nonneg _ a1
  have h2 : v.tmod 12 < 12 := Int.tmod_lt_of_pos _ (by decide)
  refine ⟨h1, h2, ?_⟩
  conv => whnf
  refine exStr 16 ?_ ?_ fun s hs => ?_
  · rfl
  · show (v.tmod 12).toNat < 12; omega
  conv => whnf
  exact ⟨⟨c, s, rfl, rfl, hs⟩⟩
theorem l08User_ok : FnOk Try.prog 162 (cDraw false strE (strP 16)) := fnOk_of fun x => fnX_at tab_ok (SOk.cons l01Below_ok SOk.nil) mixed (fn := Try.f162) (code := body Try.f162) ⟨Try.func162, rfl, by kernel_rfl, by kernel_rfl, by kernel_rfl, by kernel_rfl⟩ (ev_l08User x)
theorem ev_l08Uval : ∀ x, evFnX tab [(120, cBelow)] (cDraw false strE (strP 20)) Try.f163 (body Try.f163) x := by
  intro c
  conv => whnf
  refine useBelow (c := c) (n := 6) rfl (by decide) fun c v a1 a2 _ => ?_
  replace a2 : v < 6 := a2 (by decide)
  conv => whnf
  refine ⟨a1, a2, ?_⟩
  conv => whnf
  refine exStr 20 ?_ ?_ fun s hs => ?_
  · rfl
  · show v.toNat < 6; omega
  conv => whnf
  exact ⟨⟨c, s, rfl, rfl, hs⟩⟩
theorem l08Uval_ok : FnOk Try.prog 163 (cDraw false strE (strP 20)) := fnOk_of fun x => fnX_at tab_ok (SOk.cons l01Below_ok SOk.nil) mixed (fn := Try.f163) (code := body Try.f163) ⟨Try.func163, rfl, by kernel_rfl, by kernel_rfl, by kernel_rfl, by kernel_rfl⟩ (ev_l08Uval x)
theorem ev_l01Raw : ∀ x, evFnX tab [(120, cBelow)] (cDraw false intE intP) Try.f142 (body Try.f142) x := by
  intro c
  conv => whnf
  refine useBelow (c := c) (n := 10) rfl (by decide) fun c k k1 k2 _ => ?_
  have done : ∀ (c : CurX) (v : Int), intP v → ∃ (c' : CurX) (a : Int), [[c.d]] = [[c'.d]] ∧ [[D.lf (.int .i64 v)]] = [intE a] ∧ intP a := fun c v h => ⟨c, v, rfl, rfl, h⟩
  conv => whnf
  refine br2 (fun _ => ?_) (fun _ => ?_)
  · conv => whnf
    refine useBelow (c := c) (n := 20) rfl (by decide) fun c v a1 a2 _ => ?_
    replace a2 : v < 20 := a2 (by decide)
    conv => whnf
    exact ⟨done _ _ ⟨by omega, by omega⟩⟩
  conv => whnf
  refine br2 (fun _ => ?_) (fun _ => ?_)
  · conv => whnf
    refine useBelow (c := c) (n := 3) rfl (by decide) fun c v a1 a2 _ => ?_
    conv => whnf
    exact ⟨done _ _ ⟨wrap_lo _, wrap_hi _⟩⟩
  conv => whnf
  refine br2 (fun _ => ?_) (fun _ => ?_)
  · conv => whnf
    refine useBelow (c := c) (n := 2) rfl (by decide) fun c v a1 a2 _ => ?_
    conv => whnf
    exact ⟨done _ _ ⟨wrap_lo _, wrap_hi _⟩⟩
  conv => whnf
  refine br2 (fun _ => ?_) (fun _ => ?_)
  · conv => whnf
    refine useBelow (c := c) (n := 2) rfl (by decide) fun c v a1 a2 _ => ?_
    conv => whnf
    exact ⟨done _ _ ⟨wrap_lo _, wrap_hi _⟩⟩
  conv => whnf
  refine br2 (fun _ => ?_) (fun _ => ?_)
  · conv => whnf
    refine useBelow (c := c) (n := 2) rfl (by decide) fun c v a1 a2 _ => ?_
    conv => whnf
    exact ⟨done _ _ ⟨wrap_lo _, wrap_hi _⟩⟩
  conv => whnf
  refine br2 (fun _ => ?_) (fun _ => ?_)
  · conv => whnf
    refine useBelow (c := c) (n := 8) rfl (by decide) fun c v a1 a2 _ => ?_
    replace a2 : v < 8 := a2 (by decide)
    conv => whnf
    refine ⟨a1, a2, ?_⟩
    conv => whnf
    refine exInt ?_ ?_ fun s hs1 hs2 => ?_
    · rfl
    · show v.toNat < 8; omega
    conv => whnf
    exact ⟨done _ _ ⟨hs1, hs2⟩⟩
  conv => whnf
  refine useBelow (c := c) (n := 65536) rfl (by decide) fun c v a1 a2 _ => ?_
  conv => whnf
  exact ⟨done _ _ ⟨wrap_lo _, wrap_hi _⟩⟩
theorem l01Raw_ok : FnOk Try.prog 142 (cDraw false intE intP) := fnOk_of fun x => fnX_at tab_ok (SOk.cons l01Below_ok SOk.nil) mixed (fn := Try.f142) (code := body Try.f142) ⟨Try.func142, rfl, by kernel_rfl, by kernel_rfl, by kernel_rfl, by kernel_rfl⟩ (ev_l01Raw x)
theorem ev_l02Key : ∀ x, evFnX tab [(120, cBelow), (158, cNumText)] (cDraw false strE (strP 16)) Try.f122 (body Try.f122) x := by
  intro c
  conv => whnf
  refine useBelow (c := c) (n := 20) rfl (by decide) fun c k k1 k2 _ => ?_
  replace k2 : k < 20 := k2 (by decide)
  conv => whnf
  refine br2 (fun h => ?_) (fun _ => ?_)
  · have h1 : k < 16 := of_decide_eq_true h
    conv => whnf
    refine ⟨k1, h1, ?_⟩
    conv => whnf
    refine exStr 16 ?_ ?_ fun s hs => ?_
    · rfl
    · show k.toNat < 16; omega
    conv => whnf
    exact ⟨⟨c, s, rfl, rfl, hs⟩⟩
  conv => whnf
  refine br2 (fun h => ?_) (fun _ => ?_)
  · conv => whnf
    exact ⟨⟨c, ⟨#[0]⟩, rfl, rfl, (show (1 : Nat) ≤ 16 by decide)⟩⟩
  conv => whnf
  refine br2 (fun h => ?_) (fun _ => ?_)
  · conv => whnf
    exact ⟨⟨c, ⟨#[122,122,122,122,122,122,122,122,122,122,122,122,122,122,122,122]⟩, rfl, rfl, (show (16 : Nat) ≤ 16 by decide)⟩⟩
  conv => whnf
  refine useBelow (c := c) (n := 30) rfl (by decide) fun c v a1 a2 _ => ?_
  replace a2 : v < 30 := a2 (by decide)
  conv => whnf
  refine ⟨⟨v, by omega, by omega⟩, rfl, ?_⟩
  rintro _ _ ⟨rfl, rfl⟩
  have hs := numT_size v
  conv => whnf
  refine ⟨(show 1 + (numT v).size ≤ 4294967296 by omega), ?_⟩
  conv => whnf
  refine ⟨⟨c, ⟨#[107]⟩ ++ numT v, rfl, rfl, ?_⟩⟩
  show (ByteArray.mk #[107] ++ numT v).size ≤ 16
  rw [ByteArray.size_append]
  show 1 + (numT v).size ≤ 16
  omega
theorem l02Key_ok : FnOk Try.prog 122 (cDraw false strE (strP 16)) := fnOk_of fun x => fnX_at tab_ok (SOk.cons l01Below_ok (SOk.cons sNumText_ok SOk.nil)) mixed (fn := Try.f122) (code := body Try.f122) ⟨Try.func122, rfl, by kernel_rfl, by kernel_rfl, by kernel_rfl, by kernel_rfl⟩ (ev_l02Key x)
def rngE (r : RngX) : List D := r.ds
def rngP (k : Nat) (r : RngX) : Prop := r.lo.size ≤ k ∧ r.hi.size ≤ k
theorem ev_sKeyOk : ∀ x, evFnX tab [] cKeyOk Try.f94 (body Try.f94) x := by
  intro k
  repeat' ((conv => whnf); refine br2 (fun h => ?_) (fun h => ?_))
  all_goals (conv => whnf)
  all_goals refine ⟨⟨rfl, ?_⟩⟩
  · show _ = [[D.lf (.bool (keyOkB k))]]
    have h1 := of_decide_eq_true h
    unfold keyOkB
    rw [show decide (1 ≤ k.size) = true from decide_eq_true (by omega), Bool.true_and]
    congr 4
    exact decide_eq_decide.2 (by omega)
  · show _ = [[D.lf (.bool (keyOkB k))]]
    have h1 := of_decide_eq_false h
    unfold keyOkB
    rw [show decide (1 ≤ k.size) = false from decide_eq_false (by omega), Bool.false_and]
theorem sKeyOk_ok : FnOk Try.prog 94 cKeyOk := fnOk_of fun x => fnX_at tab_ok (SOk.nil) mixed (fn := Try.f94) (code := body Try.f94) ⟨Try.func94, rfl, by kernel_rfl, by kernel_rfl, by kernel_rfl, by kernel_rfl⟩ (ev_sKeyOk x)
structure PtX where
  s : ByteArray
  h : s.size ≤ 1000
def cPoint : Con := relC PtX [(.rd, false)] [true] (fun x => [[.lf (.string x.s)]]) (fun x r => ∃ q : RngX, r = [q.ds] ∧ rngP (x.s.size + 1) q)
theorem ev_pointOf : ∀ x, evFnX tab [(94, cKeyOk)] cPoint Try.f157 (body Try.f157) x := by
  rintro ⟨s, h⟩
  conv => whnf
  refine ⟨s, rfl, ?_⟩
  rintro _ _ ⟨rfl, rfl⟩
  conv => whnf
  refine br2 (fun h => ?_) (fun _ => ?_)
  · conv => whnf
    exact ⟨⟨rfl, ⟨⟨#[]⟩, ⟨#[]⟩⟩, rfl, Nat.zero_le _, Nat.zero_le _⟩⟩
  conv => whnf
  refine ⟨(show s.size + 1 ≤ 4294967296 by omega), ?_⟩
  conv => whnf
  refine ⟨⟨rfl, ⟨s, s ++ ⟨#[0]⟩⟩, rfl, Nat.le_succ _, ?_⟩⟩
  show (s ++ ByteArray.mk #[0]).size ≤ s.size + 1
  rw [ByteArray.size_append]; exact Nat.le_refl _
theorem pointOf_ok : FnOk Try.prog 157 cPoint := fnOk_of fun x => fnX_at tab_ok (SOk.cons sKeyOk_ok SOk.nil) mixed (fn := Try.f157) (code := body Try.f157) ⟨Try.func157, rfl, by kernel_rfl, by kernel_rfl, by kernel_rfl, by kernel_rfl⟩ (ev_pointOf x)
theorem ev_l02Range : ∀ x, evFnX tab [(120, cBelow), (122, (cDraw false strE (strP 16))), (157, cPoint)] (cDraw true rngE (rngP 17)) Try.f121 (body Try.f121) x := by
  intro c
  conv => whnf
  refine useDraw (c := c) rfl fun c a ha => ?_
  replace ha : a.size ≤ 16 := ha
  conv => whnf
  refine useDraw (c := c) rfl fun c b hb => ?_
  replace hb : b.size ≤ 16 := hb
  conv => whnf
  refine useBelow (c := c) (n := 6) rfl (by decide) fun c v a1 a2 _ => ?_
  have h0 : (ByteArray.mk #[]).size ≤ 17 := by decide
  repeat' ((conv => whnf); first
    | refine br2 (fun _ => ?_) (fun _ => ?_)
    | exact ⟨⟨c, ⟨_, _⟩, rfl, rfl, h0, h0⟩⟩
    | exact ⟨⟨c, ⟨a, _⟩, rfl, rfl, Nat.le_succ_of_le ha, h0⟩⟩
    | exact ⟨⟨c, ⟨a, b⟩, rfl, rfl, Nat.le_succ_of_le ha, Nat.le_succ_of_le hb⟩⟩
    | exact ⟨⟨c, ⟨b, a⟩, rfl, rfl, Nat.le_succ_of_le hb, Nat.le_succ_of_le ha⟩⟩
    | (refine ⟨⟨a, by omega⟩, rfl, ?_⟩; rintro _ _ ⟨rfl, q, rfl, hq1, hq2⟩; (conv => whnf); exact ⟨⟨c, q, rfl, rfl, Nat.le_trans hq1 (Nat.succ_le_succ ha), Nat.le_trans hq2 (Nat.succ_le_succ ha)⟩⟩))
theorem l02Range_ok : FnOk Try.prog 121 (cDraw true rngE (rngP 17)) := fnOk_of fun x => fnX_at tab_ok (SOk.cons l01Below_ok (SOk.cons l02Key_ok (SOk.cons pointOf_ok SOk.nil))) mixed (fn := Try.f121) (code := body Try.f121) ⟨Try.func121, rfl, by kernel_rfl, by kernel_rfl, by kernel_rfl, by kernel_rfl⟩ (ev_l02Range x)
theorem ev_l08Reach : ∀ x, evFnX tab [(120, cBelow), (162, (cDraw false strE (strP 16))), (157, cPoint)] (cDraw true rngE (rngP 17)) Try.f164 (body Try.f164) x := by
  intro c
  conv => whnf
  refine useDraw (c := c) rfl fun c a ha => ?_
  replace ha : a.size ≤ 16 := ha
  conv => whnf
  refine useDraw (c := c) rfl fun c b hb => ?_
  replace hb : b.size ≤ 16 := hb
  have h0 : (ByteArray.mk #[]).size ≤ 17 := by decide
  conv => whnf
  refine br2 (fun _ => ?_) (fun _ => ?_)
  · conv => whnf
    refine ⟨⟨a, by omega⟩, rfl, ?_⟩
    rintro _ _ ⟨rfl, q, rfl, hq1, hq2⟩
    conv => whnf
    exact ⟨⟨c, q, rfl, rfl, Nat.le_trans hq1 (Nat.succ_le_succ ha), Nat.le_trans hq2 (Nat.succ_le_succ ha)⟩⟩
  conv => whnf
  refine useBelow (c := c) (n := 4) rfl (by decide) fun c v a1 a2 _ => ?_
  conv => whnf
  refine br2 (fun _ => ?_) (fun _ => ?_)
  · conv => whnf
    exact ⟨⟨c, ⟨a, _⟩, rfl, rfl, Nat.le_succ_of_le ha, h0⟩⟩
  conv => whnf
  exact ⟨⟨c, ⟨a, b⟩, rfl, rfl, Nat.le_succ_of_le ha, Nat.le_succ_of_le hb⟩⟩
theorem l08Reach_ok : FnOk Try.prog 164 (cDraw true rngE (rngP 17)) := fnOk_of fun x => fnX_at tab_ok (SOk.cons l01Below_ok (SOk.cons l08User_ok (SOk.cons pointOf_ok SOk.nil))) mixed (fn := Try.f164) (code := body Try.f164) ⟨Try.func164, rfl, by kernel_rfl, by kernel_rfl, by kernel_rfl, by kernel_rfl⟩ (ev_l08Reach x)
theorem ev_l02AnyRange : ∀ x, evFnX tab [(120, cBelow), (121, (cDraw true rngE (rngP 17)))] (cDraw true rngE (rngP 20)) Try.f62 (body Try.f62) x := by
  intro c
  conv => whnf
  refine useDraw (c := c) rfl fun c q hq => ?_
  obtain ⟨lo, hi⟩ := q
  obtain ⟨q1, q2⟩ : lo.size ≤ 17 ∧ hi.size ≤ 17 := hq
  have u1 : lo.size ≤ 20 := by omega
  have u2 : hi.size ≤ 20 := by omega
  conv => whnf
  refine useBelow (c := c) (n := 14) rfl (by decide) fun c k k1 k2 k3 => ?_
  clear k1 k2 k3
  have fin : ∀ (c : CurX) (lo hi : ByteArray), lo.size ≤ 20 → hi.size ≤ 20 → ∃ (c' : CurX) (a : RngX), [[c.d]] = [[c'.d]] ∧ [[D.lf (.string lo), D.lf (.string hi)]] = [rngE a] ∧ rngP 20 a := fun c lo hi h1 h2 => ⟨c, ⟨lo, hi⟩, rfl, rfl, h1, h2⟩
  have g1 : (k == 0) = true → k = 0 := fun h => eq_of_beq h
  have g2 : (k == 1) = true → k = 1 := fun h => eq_of_beq h
  have g3 : (k == 2) = true → k = 2 := fun h => eq_of_beq h
  have g4 : (k == 3) = true → k = 3 := fun h => eq_of_beq h
  have one : ∀ (c : CurX) (v : Int), 0 ≤ v → v < 2 → 0 ≤ IntKind.i64.wrap (17 + v) ∧ IntKind.i64.wrap (17 + v) ≤ 18 := fun c v h1 h2 => by rw [w64 (by omega) (by omega)]; omega
  conv => whnf
  refine br2 (fun h0 => ?_) (fun h0 => ?_)
  · obtain rfl := g1 h0
    conv => whnf
    exact ⟨fin _ _ _ (by first | exact u1 | exact u2) (by first | exact u1 | exact u2)⟩
  conv => whnf
  refine br2 (fun h0 => ?_) (fun h0 => ?_)
  · obtain rfl := g2 h0
    conv => whnf
    refine useBelow (c := c) (n := 2) rfl (by decide) fun c v a1 a2 _ => ?_
    replace a2 : v < 2 := a2 (by decide)
    obtain ⟨o1, o2⟩ := one c v a1 a2
    conv => whnf
    refine ⟨o1, rfl, Int.le_trans o2 (by decide), ?_⟩
    conv => whnf
    refine ⟨UInt8, encB, 0, fun _ => rfl, rfl, ?_⟩
    conv => whnf
    refine ⟨List.replicate (IntKind.i64.wrap (17 + v)).toNat 0, rfl, ?_⟩
    conv => whnf
    refine ⟨fin _ _ _ ?_ u2⟩
    show (List.replicate (IntKind.i64.wrap (17 + v)).toNat (0 : UInt8)).toArray.size ≤ 20
    simp; omega
  conv => whnf
  refine br2 (fun h0 => ?_) (fun h0 => ?_)
  · obtain rfl := g3 h0
    conv => whnf
    refine useBelow (c := c) (n := 2) rfl (by decide) fun c v a1 a2 _ => ?_
    replace a2 : v < 2 := a2 (by decide)
    conv => whnf
    refine ⟨a1, a2, ?_⟩
    conv => whnf
    refine exStr 1 ?_ ?_ fun s hs => ?_
    · rfl
    · show v.toNat < 2; omega
    conv => whnf
    refine ⟨(show 17 + s.size ≤ 4294967296 by omega), ?_⟩
    conv => whnf
    refine ⟨fin _ _ _ u1 ?_⟩
    rw [ByteArray.size_append]
    show 17 + s.size ≤ 20
    omega
  conv => whnf
  refine br2 (fun h0 => ?_) (fun h0 => ?_)
  · conv => whnf
    exact ⟨fin _ _ _ (by first | exact u1 | exact u2) (by first | exact u1 | exact u2)⟩
  conv => whnf
  exact ⟨fin _ _ _ (by first | exact u1 | exact u2) (by first | exact u1 | exact u2)⟩
theorem l02AnyRange_ok : FnOk Try.prog 62 (cDraw true rngE (rngP 20)) := fnOk_of fun x => fnX_at tab_ok (SOk.cons l01Below_ok (SOk.cons l02Range_ok SOk.nil)) mixed (fn := Try.f62) (code := body Try.f62) ⟨Try.func62, rfl, by kernel_rfl, by kernel_rfl, by kernel_rfl, by kernel_rfl⟩ (ev_l02AnyRange x)
end Go.Vm
namespace Go.Vm
open Go.Proofs
set_option maxRecDepth 100000
set_option linter.unusedVariables false
set_option linter.unusedSimpArgs false

def txOkB (x : TxX) : Bool := decide (0 ≤ x.c) && decide (x.c ≤ 7) && decide (1 ≤ x.e) && decide (x.e ≤ 999) && decide (1 ≤ x.n) && decide (x.n ≤ 999)
def cTxOk : Con := pureC TxX [(.rd, true)] [false] (fun x => [x.ds]) (fun x => [[.lf (.bool (txOkB x))]])
theorem ev_sTxOk : ∀ x, evFnX tab [] cTxOk Try.f69 (body Try.f69) x := by
  rintro ⟨c, e, n⟩
  repeat' ((conv => whnf); refine br2 (fun h => ?_) (fun h => ?_))
  all_goals (conv => whnf)
  all_goals refine ⟨⟨rfl, ?_⟩⟩
  all_goals show _ = [[D.lf (.bool (txOkB ⟨c, e, n⟩))]]
  all_goals simp_all [txOkB]
  all_goals omega
theorem sTxOk_ok : FnOk Try.prog 69 cTxOk := fnOk_of fun x => fnX_at tab_ok (SOk.nil) mixed (fn := Try.f69) (code := body Try.f69) ⟨Try.func69, rfl, by kernel_rfl, by kernel_rfl, by kernel_rfl, by kernel_rfl⟩ (ev_sTxOk x)
theorem ev_iTxOk : ∀ x, evFnX tab [(93, cWithin)] cTxOk Try.f71 (body Try.f71) x := by
  rintro ⟨c, e, n⟩
  conv => whnf
  refine ⟨⟨c, 0, 7⟩, rfl, ?_⟩
  rintro _ _ ⟨rfl, rfl⟩
  conv => whnf
  refine br2 (fun h1 => ?_) (fun h1 => ?_)
  · conv => whnf
    refine ⟨⟨e, 1, 999⟩, rfl, ?_⟩
    rintro _ _ ⟨rfl, rfl⟩
    conv => whnf
    refine br2 (fun h2 => ?_) (fun h2 => ?_)
    · conv => whnf
      refine ⟨⟨n, 1, 999⟩, rfl, ?_⟩
      rintro _ _ ⟨rfl, rfl⟩
      conv => whnf
      refine ⟨⟨rfl, ?_⟩⟩
      show [[D.lf (.bool (decide (1 ≤ n) && decide (n ≤ 999)))]] = [[D.lf (.bool (txOkB ⟨c, e, n⟩))]]
      replace h1 : (decide (0 ≤ c) && decide (c ≤ 7)) = true := h1
      replace h2 : (decide (1 ≤ e) && decide (e ≤ 999)) = true := h2
      simp_all [txOkB]
    · conv => whnf
      refine ⟨⟨rfl, ?_⟩⟩
      show _ = [[D.lf (.bool (txOkB ⟨c, e, n⟩))]]
      replace h2 : (decide (1 ≤ e) && decide (e ≤ 999)) = false := h2
      simp [txOkB, Bool.and_assoc] at h2 ⊢
      intros; omega
  · conv => whnf
    refine ⟨⟨rfl, ?_⟩⟩
    show _ = [[D.lf (.bool (txOkB ⟨c, e, n⟩))]]
    replace h1 : (decide (0 ≤ c) && decide (c ≤ 7)) = false := h1
    simp [txOkB, Bool.and_assoc] at h1 ⊢
    intros; omega
theorem iTxOk_ok : FnOk Try.prog 71 cTxOk := fnOk_of fun x => fnX_at tab_ok (SOk.cons within_ok SOk.nil) mixed (fn := Try.f71) (code := body Try.f71) ⟨Try.func71, rfl, by kernel_rfl, by kernel_rfl, by kernel_rfl, by kernel_rfl⟩ (ev_iTxOk x)

/-! What two ranges have in common -/
def bothLo (a b : RngX) : ByteArray := if strLt a.lo b.lo then b.lo else a.lo
def bothHi (a b : RngX) : ByteArray := if emp a.hi || (!emp b.hi && strLt b.hi a.hi) then b.hi else a.hi
def bothB (a b : RngX) : Bool := rangeOkB a.lo a.hi && rangeOkB b.lo b.hi && rangeOkB (bothLo a b) (bothHi a b)
def bothR (a b : RngX) : RngX := if bothB a b then ⟨bothLo a b, bothHi a b⟩ else rng0
def cBoth : Con := pureC (RngX × RngX) [(.rd, true), (.rd, true)] [true, false] (fun x => [x.1.ds, x.2.ds]) (fun x => [(bothR x.1 x.2).ds, [.lf (.bool (bothB x.1 x.2))]])
theorem ev_sRangeBoth : ∀ x, evFnX tab [(65, cRangeOk)] cBoth Try.f16 (body Try.f16) x := by
  rintro ⟨⟨a, b⟩, ⟨c, d⟩⟩
  have key : ∀ (lo hi : ByteArray), lo = bothLo ⟨a, b⟩ ⟨c, d⟩ → hi = bothHi ⟨a, b⟩ ⟨c, d⟩ → rangeOkB a b = true → rangeOkB c d = true →
      (rangeOkB lo hi = true → [[D.lf (.string lo), D.lf (.string hi)], [D.lf (.bool true)]] = [(bothR ⟨a, b⟩ ⟨c, d⟩).ds, [D.lf (.bool (bothB ⟨a, b⟩ ⟨c, d⟩))]]) ∧
      (rangeOkB lo hi = false → [[D.lf (.string ⟨#[]⟩), D.lf (.string ⟨#[]⟩)], [D.lf (.bool false)]] = [(bothR ⟨a, b⟩ ⟨c, d⟩).ds, [D.lf (.bool (bothB ⟨a, b⟩ ⟨c, d⟩))]]) := by
    rintro _ _ rfl rfl h1 h2
    exact ⟨fun h => by simp [bothR, bothB, h1, h2, h, RngX.ds], fun h => by simp [bothR, bothB, h1, h2, h, RngX.ds, rng0]⟩
  conv => whnf
  refine ⟨(a, b), rfl, ?_⟩
  rintro _ _ ⟨rfl, rfl⟩
  conv => whnf
  refine br2 (fun h1 => ?_) (fun h1 => ?_)
  · conv => whnf
    refine ⟨⟨rfl, ?_⟩⟩
    replace h1 : (!rangeOkB a b) = true := h1
    show _ = [(bothR ⟨a, b⟩ ⟨c, d⟩).ds, [D.lf (.bool (bothB ⟨a, b⟩ ⟨c, d⟩))]]
    rw [Bool.not_eq_true'] at h1
    simp [bothR, bothB, h1, RngX.ds, rng0]
  replace h1 : (!rangeOkB a b) = false := h1
  rw [Bool.not_eq_false'] at h1
  conv => whnf
  refine ⟨(c, d), rfl, ?_⟩
  rintro _ _ ⟨rfl, rfl⟩
  conv => whnf
  refine br2 (fun h2 => ?_) (fun h2 => ?_)
  · conv => whnf
    refine ⟨⟨rfl, ?_⟩⟩
    replace h2 : (!rangeOkB c d) = true := h2
    show _ = [(bothR ⟨a, b⟩ ⟨c, d⟩).ds, [D.lf (.bool (bothB ⟨a, b⟩ ⟨c, d⟩))]]
    rw [Bool.not_eq_true'] at h2
    simp [bothR, bothB, h2, RngX.ds, rng0]
  replace h2 : (!rangeOkB c d) = false := h2
  rw [Bool.not_eq_false'] at h2
  have fin : ∀ (lo hi : ByteArray), lo = bothLo ⟨a, b⟩ ⟨c, d⟩ → hi = bothHi ⟨a, b⟩ ⟨c, d⟩ → True := fun _ _ _ _ => trivial
  have elo : ∀ t, (!(strLt c a || strEq c a)) = t → (if t then c else a) = bothLo ⟨a, b⟩ ⟨c, d⟩ := by
    rintro t rfl
    unfold bothLo
    rw [strLt_gtr]
  have ehi : ∀ t u w, emp b = t → (!emp d) = u → strLt d b = w → (if t || (u && w) then d else b) = bothHi ⟨a, b⟩ ⟨c, d⟩ := by rintro _ _ _ rfl rfl rfl; rfl
  conv => whnf
  refine br2 (fun h3 => ?_) (fun h3 => ?_)
  all_goals
    have e1 := elo _ h3
    conv => whnf
    refine br2 (fun h4 => ?_) (fun h4 => ?_)
    · have e2 : d = bothHi ⟨a, b⟩ ⟨c, d⟩ := by have := ehi _ _ _ h4 rfl rfl; simpa using this
      conv => whnf
      refine ⟨(_, d), rfl, ?_⟩
      rintro _ _ ⟨rfl, rfl⟩
      conv => whnf
      refine br2 (fun h5 => ?_) (fun h5 => ?_)
      · conv => whnf
        exact ⟨⟨rfl, (key _ _ (by simpa using e1) e2 h1 h2).2 (by simpa using h5)⟩⟩
      · conv => whnf
        exact ⟨⟨rfl, (key _ _ (by simpa using e1) e2 h1 h2).1 (by simpa using h5)⟩⟩
    · conv => whnf
      refine br2 (fun h5 => ?_) (fun h5 => ?_)
      · conv => whnf
        refine br2 (fun h6 => ?_) (fun h6 => ?_)
        · have e2 : d = bothHi ⟨a, b⟩ ⟨c, d⟩ := by have := ehi _ _ _ h4 h5 h6; simpa using this
          conv => whnf
          refine ⟨(_, d), rfl, ?_⟩
          rintro _ _ ⟨rfl, rfl⟩
          conv => whnf
          refine br2 (fun h5 => ?_) (fun h5 => ?_)
          · conv => whnf
            exact ⟨⟨rfl, (key _ _ (by simpa using e1) e2 h1 h2).2 (by simpa using h5)⟩⟩
          · conv => whnf
            exact ⟨⟨rfl, (key _ _ (by simpa using e1) e2 h1 h2).1 (by simpa using h5)⟩⟩
        · have e2 : b = bothHi ⟨a, b⟩ ⟨c, d⟩ := by have := ehi _ _ _ h4 h5 h6; simpa using this
          conv => whnf
          refine ⟨(_, b), rfl, ?_⟩
          rintro _ _ ⟨rfl, rfl⟩
          conv => whnf
          refine br2 (fun h5 => ?_) (fun h5 => ?_)
          · conv => whnf
            exact ⟨⟨rfl, (key _ _ (by simpa using e1) e2 h1 h2).2 (by simpa using h5)⟩⟩
          · conv => whnf
            exact ⟨⟨rfl, (key _ _ (by simpa using e1) e2 h1 h2).1 (by simpa using h5)⟩⟩
      · have e2 : b = bothHi ⟨a, b⟩ ⟨c, d⟩ := by have := ehi _ _ _ h4 h5 rfl; simpa using this
        conv => whnf
        refine ⟨(_, b), rfl, ?_⟩
        rintro _ _ ⟨rfl, rfl⟩
        conv => whnf
        refine br2 (fun h5 => ?_) (fun h5 => ?_)
        · conv => whnf
          exact ⟨⟨rfl, (key _ _ (by simpa using e1) e2 h1 h2).2 (by simpa using h5)⟩⟩
        · conv => whnf
          exact ⟨⟨rfl, (key _ _ (by simpa using e1) e2 h1 h2).1 (by simpa using h5)⟩⟩
theorem sRangeBoth_ok : FnOk Try.prog 16 cBoth := fnOk_of fun x => fnX_at tab_ok (SOk.cons sRangeOk_ok SOk.nil) mixed (fn := Try.f16) (code := body Try.f16) ⟨Try.func16, rfl, by kernel_rfl, by kernel_rfl, by kernel_rfl, by kernel_rfl⟩ (ev_sRangeBoth x)
theorem nt_t {b : Bool} (h : (!b) = true) : b = false := by cases b <;> simp_all
theorem nt_f {b : Bool} (h : (!b) = false) : b = true := by cases b <;> simp_all
theorem ev_iRangeBoth : ∀ x, evFnX tab [(64, cRangeOk)] cBoth Try.f15 (body Try.f15) x := by
  rintro ⟨⟨a, b⟩, ⟨c, d⟩⟩
  have key : ∀ (lo hi : ByteArray), lo = bothLo ⟨a, b⟩ ⟨c, d⟩ → hi = bothHi ⟨a, b⟩ ⟨c, d⟩ → rangeOkB a b = true → rangeOkB c d = true →
      (rangeOkB lo hi = true → [[D.lf (.string lo), D.lf (.string hi)], [D.lf (.bool true)]] = [(bothR ⟨a, b⟩ ⟨c, d⟩).ds, [D.lf (.bool (bothB ⟨a, b⟩ ⟨c, d⟩))]]) ∧
      (rangeOkB lo hi = false → [[D.lf (.string ⟨#[]⟩), D.lf (.string ⟨#[]⟩)], [D.lf (.bool false)]] = [(bothR ⟨a, b⟩ ⟨c, d⟩).ds, [D.lf (.bool (bothB ⟨a, b⟩ ⟨c, d⟩))]]) := by
    rintro _ _ rfl rfl h1 h2
    exact ⟨fun h => by simp [bothR, bothB, h1, h2, h, RngX.ds], fun h => by simp [bothR, bothB, h1, h2, h, RngX.ds, rng0]⟩
  have ehi : ∀ t u w, emp b = t → (!emp d) = u → strLt d b = w → (if t || (u && w) then d else b) = bothHi ⟨a, b⟩ ⟨c, d⟩ := by rintro _ _ _ rfl rfl rfl; rfl
  conv => whnf
  refine ⟨(a, b), rfl, ?_⟩
  rintro _ _ ⟨rfl, rfl⟩
  conv => whnf
  refine br2 (fun h1 => ?_) (fun h1 => ?_)
  · conv => whnf
    refine ⟨⟨rfl, ?_⟩⟩
    replace h1 : (!rangeOkB a b) = true := h1
    show _ = [(bothR ⟨a, b⟩ ⟨c, d⟩).ds, [D.lf (.bool (bothB ⟨a, b⟩ ⟨c, d⟩))]]
    rw [Bool.not_eq_true'] at h1
    simp [bothR, bothB, h1, RngX.ds, rng0]
  replace h1 : (!rangeOkB a b) = false := h1
  rw [Bool.not_eq_false'] at h1
  conv => whnf
  refine ⟨(c, d), rfl, ?_⟩
  rintro _ _ ⟨rfl, rfl⟩
  conv => whnf
  refine br2 (fun h2 => ?_) (fun h2 => ?_)
  · conv => whnf
    refine ⟨⟨rfl, ?_⟩⟩
    replace h2 : (!rangeOkB c d) = true := h2
    show _ = [(bothR ⟨a, b⟩ ⟨c, d⟩).ds, [D.lf (.bool (bothB ⟨a, b⟩ ⟨c, d⟩))]]
    rw [Bool.not_eq_true'] at h2
    simp [bothR, bothB, h2, RngX.ds, rng0]
  replace h2 : (!rangeOkB c d) = false := h2
  rw [Bool.not_eq_false'] at h2
  conv => whnf
  refine br2 (fun h4 => ?_) (fun h4 => ?_)
  · have e2 : d = bothHi ⟨a, b⟩ ⟨c, d⟩ := by have := ehi _ _ _ h4 rfl rfl; simpa using this
    conv => whnf
    refine ⟨(_, d), rfl, ?_⟩
    rintro _ _ ⟨rfl, rfl⟩
    conv => whnf
    refine br2 (fun h5 => ?_) (fun h5 => ?_)
    · conv => whnf
      exact ⟨⟨rfl, (key _ _ rfl e2 h1 h2).2 (nt_t h5)⟩⟩
    · conv => whnf
      exact ⟨⟨rfl, (key _ _ rfl e2 h1 h2).1 (nt_f h5)⟩⟩
  · conv => whnf
    refine br2 (fun h5 => ?_) (fun h5 => ?_)
    · conv => whnf
      refine br2 (fun h6 => ?_) (fun h6 => ?_)
      · have e2 : d = bothHi ⟨a, b⟩ ⟨c, d⟩ := by have := ehi _ _ _ h4 h5 h6; simpa using this
        conv => whnf
        refine ⟨(_, d), rfl, ?_⟩
        rintro _ _ ⟨rfl, rfl⟩
        conv => whnf
        refine br2 (fun h5 => ?_) (fun h5 => ?_)
        · conv => whnf
          exact ⟨⟨rfl, (key _ _ rfl e2 h1 h2).2 (nt_t h5)⟩⟩
        · conv => whnf
          exact ⟨⟨rfl, (key _ _ rfl e2 h1 h2).1 (nt_f h5)⟩⟩
      · have e2 : b = bothHi ⟨a, b⟩ ⟨c, d⟩ := by have := ehi _ _ _ h4 h5 h6; simpa using this
        conv => whnf
        refine ⟨(_, b), rfl, ?_⟩
        rintro _ _ ⟨rfl, rfl⟩
        conv => whnf
        refine br2 (fun h5 => ?_) (fun h5 => ?_)
        · conv => whnf
          exact ⟨⟨rfl, (key _ _ rfl e2 h1 h2).2 (nt_t h5)⟩⟩
        · conv => whnf
          exact ⟨⟨rfl, (key _ _ rfl e2 h1 h2).1 (nt_f h5)⟩⟩
    · have e2 : b = bothHi ⟨a, b⟩ ⟨c, d⟩ := by have := ehi _ _ _ h4 h5 rfl; simpa using this
      conv => whnf
      refine ⟨(_, b), rfl, ?_⟩
      rintro _ _ ⟨rfl, rfl⟩
      conv => whnf
      refine br2 (fun h5 => ?_) (fun h5 => ?_)
      · conv => whnf
        exact ⟨⟨rfl, (key _ _ rfl e2 h1 h2).2 (nt_t h5)⟩⟩
      · conv => whnf
        exact ⟨⟨rfl, (key _ _ rfl e2 h1 h2).1 (nt_f h5)⟩⟩
theorem iRangeBoth_ok : FnOk Try.prog 15 cBoth := fnOk_of fun x => fnX_at tab_ok (SOk.cons iRangeOk_ok SOk.nil) mixed (fn := Try.f15) (code := body Try.f15) ⟨Try.func15, rfl, by kernel_rfl, by kernel_rfl, by kernel_rfl, by kernel_rfl⟩ (ev_iRangeBoth x)
theorem any_at {α : Type} {p : α → Bool} {l : List α} {i : Nat} {y : α} (hy : l[i]? = some y) (h : p y = true) : l.any p = true := List.any_eq_true.2 ⟨y, List.mem_of_getElem? hy, h⟩
theorem any_no {α : Type} {p : α → Bool} {l : List α} (h : ∀ j y, j < l.length → l[j]? = some y → p y = false) : l.any p = false := by
  rw [List.any_eq_false]
  intro y hy
  obtain ⟨j, hj⟩ := List.getElem?_of_mem hy
  rw [h j y (List.getElem?_eq_some_iff.1 hj).1 hj]; simp
end Go.Vm
namespace Go.Vm
open Go.Proofs
set_option maxRecDepth 100000
set_option linter.unusedVariables false
set_option linter.unusedSimpArgs false

/-- Equality of transactions as Go compares them. -/
def txEq (a b : TxX) : Bool := a.c == b.c && (a.e == b.e && (a.n == b.n && true))
theorem txEq_iff {a b : TxX} : txEq a b = true ↔ a = b := by
  obtain ⟨a1, a2, a3⟩ := a
  obtain ⟨b1, b2, b3⟩ := b
  simp [txEq]
def clashB (x y : LockX) : Bool := !txEq x.tx y.tx && bothB x.rng y.rng && (x.ex || y.ex)
def lockOkB (x : LockX) : Bool := txOkB x.tx && rangeOkB x.rng.lo x.rng.hi
theorem ev_sLockOk : ∀ x, evFnX tab [(69, cTxOk), (65, cRangeOk)] (pureC LockX [(.rd, true)] [false] (fun x => [x.ds]) (fun x => [[.lf (.bool (lockOkB x))]])) Try.f82 (body Try.f82) x := by
  intro x
  conv => whnf
  refine ⟨x.tx, rfl, ?_⟩
  rintro _ _ ⟨rfl, rfl⟩
  conv => whnf
  refine br2 (fun h1 => ?_) (fun h1 => ?_)
  · conv => whnf
    refine ⟨(x.rng.lo, x.rng.hi), rfl, ?_⟩
    rintro _ _ ⟨rfl, rfl⟩
    conv => whnf
    refine ⟨⟨rfl, ?_⟩⟩
    replace h1 : txOkB x.tx = true := h1
    have : lockOkB x = (txOkB x.tx && rangeOkB x.rng.lo x.rng.hi) := rfl
    show _ = [[D.lf (.bool (lockOkB x))]]
    rw [this, h1]
    rfl
  · conv => whnf
    refine ⟨⟨rfl, ?_⟩⟩
    replace h1 : txOkB x.tx = false := h1
    have : lockOkB x = (txOkB x.tx && rangeOkB x.rng.lo x.rng.hi) := rfl
    show _ = [[D.lf (.bool (lockOkB x))]]
    rw [this, h1]
    rfl
theorem sLockOk_ok : FnOk Try.prog 82 (pureC LockX [(.rd, true)] [false] (fun x => [x.ds]) (fun x => [[.lf (.bool (lockOkB x))]])) := fnOk_of fun x => fnX_at tab_ok (SOk.cons sTxOk_ok (SOk.cons sRangeOk_ok SOk.nil)) mixed (fn := Try.f82) (code := body Try.f82) ⟨Try.func82, rfl, by kernel_rfl, by kernel_rfl, by kernel_rfl, by kernel_rfl⟩ (ev_sLockOk x)
theorem ev_iLockOk : ∀ x, evFnX tab [(71, cTxOk), (64, cRangeOk)] (pureC LockX [(.rd, true)] [false] (fun x => [x.ds]) (fun x => [[.lf (.bool (lockOkB x))]])) Try.f86 (body Try.f86) x := by
  intro x
  conv => whnf
  refine ⟨x.tx, rfl, ?_⟩
  rintro _ _ ⟨rfl, rfl⟩
  conv => whnf
  refine br2 (fun h1 => ?_) (fun h1 => ?_)
  · conv => whnf
    refine ⟨(x.rng.lo, x.rng.hi), rfl, ?_⟩
    rintro _ _ ⟨rfl, rfl⟩
    conv => whnf
    refine ⟨⟨rfl, ?_⟩⟩
    replace h1 : txOkB x.tx = true := h1
    have : lockOkB x = (txOkB x.tx && rangeOkB x.rng.lo x.rng.hi) := rfl
    show _ = [[D.lf (.bool (lockOkB x))]]
    rw [this, h1]
    rfl
  · conv => whnf
    refine ⟨⟨rfl, ?_⟩⟩
    replace h1 : txOkB x.tx = false := h1
    have : lockOkB x = (txOkB x.tx && rangeOkB x.rng.lo x.rng.hi) := rfl
    show _ = [[D.lf (.bool (lockOkB x))]]
    rw [this, h1]
    rfl
theorem iLockOk_ok : FnOk Try.prog 86 (pureC LockX [(.rd, true)] [false] (fun x => [x.ds]) (fun x => [[.lf (.bool (lockOkB x))]])) := fnOk_of fun x => fnX_at tab_ok (SOk.cons iTxOk_ok (SOk.cons iRangeOk_ok SOk.nil)) mixed (fn := Try.f86) (code := body Try.f86) ⟨Try.func86, rfl, by kernel_rfl, by kernel_rfl, by kernel_rfl, by kernel_rfl⟩ (ev_iLockOk x)
def cClash : Con := pureC (LockX × LockX) [(.rd, true), (.rd, true)] [false] (fun x => [x.1.ds, x.2.ds]) (fun x => [[.lf (.bool (clashB x.1 x.2))]])
theorem ev_sClash : ∀ x, evFnX tab [(16, cBoth)] cClash Try.f133 (body Try.f133) x := by
  rintro ⟨x, y⟩
  conv => whnf
  refine ⟨(x.rng, y.rng), rfl, ?_⟩
  rintro _ _ ⟨rfl, rfl⟩
  have e0 : ∀ b, (((x, y).fst.tx.c == (x, y).snd.tx.c &&
        ((x, y).fst.tx.e == (x, y).snd.tx.e && ((x, y).fst.tx.n == (x, y).snd.tx.n && true))) = b) = (txEq x.tx y.tx = b) := fun _ => rfl
  have e1 : ∀ b, (bothB (x.rng, y.rng).fst (x.rng, y.rng).snd = b) = (bothB x.rng y.rng = b) := fun _ => rfl
  have e2 : ∀ b, ((x, y).fst.ex = b) = (x.ex = b) := fun _ => rfl
  have ex : clashB x y = (!txEq x.tx y.tx && bothB x.rng y.rng && (x.ex || y.ex)) := rfl
  repeat' ((conv => whnf); refine br2 (fun h => ?_) (fun h => ?_))
  all_goals (conv => whnf)
  all_goals refine ⟨⟨rfl, ?_⟩⟩
  all_goals show _ = [[D.lf (.bool (clashB x y))]]
  all_goals simp only [Bool.not_eq_true', Bool.not_eq_false', e0, e1, e2] at *
  all_goals simp_all
theorem sClash_ok : FnOk Try.prog 133 cClash := fnOk_of fun x => fnX_at tab_ok (SOk.cons sRangeBoth_ok SOk.nil) mixed (fn := Try.f133) (code := body Try.f133) ⟨Try.func133, rfl, by kernel_rfl, by kernel_rfl, by kernel_rfl, by kernel_rfl⟩ (ev_sClash x)
theorem ev_iClash : ∀ x, evFnX tab [(15, cBoth)] cClash Try.f137 (body Try.f137) x := by
  rintro ⟨x, y⟩
  have e0 : ∀ b, (((x, y).fst.tx.c == (x, y).snd.tx.c &&
        ((x, y).fst.tx.e == (x, y).snd.tx.e && ((x, y).fst.tx.n == (x, y).snd.tx.n && true))) = b) = (txEq x.tx y.tx = b) := fun _ => rfl
  have e1 : ∀ b, (bothB (x.rng, y.rng).fst (x.rng, y.rng).snd = b) = (bothB x.rng y.rng = b) := fun _ => rfl
  have e2 : ∀ b, ((x, y).fst.ex = b) = (x.ex = b) := fun _ => rfl
  have e3 : ∀ b, ((x, y).snd.ex = b) = (y.ex = b) := fun _ => rfl
  have ex : clashB x y = (!txEq x.tx y.tx && bothB x.rng y.rng && (x.ex || y.ex)) := rfl
  repeat' ((conv => whnf); first | refine br2 (fun h => ?_) (fun h => ?_) | (refine ⟨(x.rng, y.rng), rfl, ?_⟩; rintro _ _ ⟨rfl, rfl⟩))
  all_goals (conv => whnf)
  all_goals refine ⟨⟨rfl, ?_⟩⟩
  all_goals show _ = [[D.lf (.bool (clashB x y))]]
  all_goals simp only [Bool.not_eq_true', Bool.not_eq_false', e0, e1, e2, e3] at *
  all_goals simp_all
theorem iClash_ok : FnOk Try.prog 137 cClash := fnOk_of fun x => fnX_at tab_ok (SOk.cons iRangeBoth_ok SOk.nil) mixed (fn := Try.f137) (code := body Try.f137) ⟨Try.func137, rfl, by kernel_rfl, by kernel_rfl, by kernel_rfl, by kernel_rfl⟩ (ev_iClash x)
/-- Whether one of the list clashes. -/
def anyB (l : List LockX) (x : LockX) : Bool := l.any fun y => clashB x y
def cAny : Con := pureC (List LockX × LockX) [(.rd, false), (.rd, true)] [false] (fun x => [[.row 6 LockX.ds x.1], x.2.ds]) (fun x => [[.lf (.bool (anyB x.1 x.2))]])
def LockX.vs (x : LockX) : List V := [.lf (.int .i64 x.tx.c), .lf (.int .i64 x.tx.e), .lf (.int .i64 x.tx.n), .lf (.string x.rng.lo), .lf (.string x.rng.hi), .lf (.bool x.ex)]
def TxX.vs (x : TxX) : List V := [.lf (.int .i64 x.c), .lf (.int .i64 x.e), .lf (.int .i64 x.n)]
theorem ev_sAny : ∀ x, evFnX tab [(133, cClash)] cAny Try.f83 (body Try.f83) x := by
  rintro ⟨l, x⟩
  conv => whnf
  intro h1
  replace h1 : l.length ≤ 9223372036854775807 := h1
  conv => whnf
  refine ⟨fun m s h => ∃ i : Nat, i ≤ l.length ∧ (∀ j y, j < i → l[j]? = some y → clashB x y = false) ∧ m = l.length - i ∧ s = [(9, .lf (.int .i64 i)), (8, .lf (.int .i64 l.length)), (7, .sl 0 none), (3, .pt 48 0 0)] ∧ h = [(48, some (.arr true 6 [x.vs])), (0, some (.row .lent 6 LockX.ds l))],
    l.length, [(48, 48), (0, 0)], [(9, .lf (.int .i64 0)), (8, .lf (.int .i64 l.length)), (7, .sl 0 none), (3, .pt 48 0 0)], [(48, some (.arr true 6 [x.vs])), (0, some (.row .lent 6 LockX.ds l))], ⟨rfl, ⟨rfl, rfl, rfl, rfl, trivial⟩, ⟨rfl, rfl, trivial⟩⟩, ⟨0, by omega, fun j y h => by omega, by omega, rfl, rfl⟩, ?_⟩
  rintro m _ _ ⟨i, g1, g2, rfl, rfl, rfl⟩
  conv => whnf
  refine br2 (fun h5 => ?_) (fun h5 => ?_)
  · have hi : i < l.length := by have := of_decide_eq_true h5; omega
    obtain ⟨y, hy⟩ : ∃ y, l[i]? = some y := ⟨_, List.getElem?_eq_getElem hi⟩
    have hy2 : nth l ((i : Nat) : Int).toNat = some y := by rw [nth_eq, Int.toNat_natCast]; exact hy
    conv => whnf
    refine ⟨Int.natCast_nonneg _, (show (i : Int) < (l.length : Int) by omega), ?_⟩
    conv => whnf
    refine ex2 y hy2 ?_
    conv => whnf
    refine ⟨(x, y), rfl, ?_⟩
    rintro _ _ ⟨rfl, rfl⟩
    conv => whnf
    refine br2 (fun h6 => ?_) (fun h6 => ?_)
    · conv => whnf
      refine ⟨⟨rfl, ?_⟩⟩
      have : anyB l x = true := any_at (p := fun y => clashB x y) hy h6
      show _ = [[D.lf (.bool (anyB l x))]]
      rw [this]
    · replace h6 : clashB x y = false := h6
      conv => whnf
      refine ⟨l.length - (i + 1), [(48, 48), (0, 0)], [(9, .lf (.int .i64 ((i + 1 : Nat) : Int))), (8, .lf (.int .i64 l.length)), (7, .sl 0 none), (3, .pt 48 0 0)], [(48, some (.arr true 6 [x.vs])), (0, some (.row .lent 6 LockX.ds l))], by omega, ⟨rfl, ⟨?_, rfl, rfl, rfl, trivial⟩, ⟨rfl, rfl, trivial⟩⟩, i + 1, by omega, fun j z hj hz => ?_, rfl, rfl, rfl⟩
      · show V.lf (.int .i64 (IntKind.i64.wrap ((i : Int) + 1))) = _
        rw [w64 (by omega) (by omega)]; rfl
      · rcases Nat.lt_or_ge j i with h7 | h7
        · exact g2 j z h7 hz
        · obtain rfl : j = i := by omega
          rw [hy] at hz; cases hz; exact h6
  · have hi : i = l.length := by have := of_decide_eq_false h5; omega
    conv => whnf
    refine ⟨⟨rfl, ?_⟩⟩
    have : anyB l x = false := any_no (p := fun y => clashB x y) (by rw [← hi]; exact g2)
    show _ = [[D.lf (.bool (anyB l x))]]
    rw [this]
theorem sAny_ok : FnOk Try.prog 83 cAny := fnOk_of fun x => fnX_at tab_ok (SOk.cons sClash_ok SOk.nil) mixed (fn := Try.f83) (code := body Try.f83) ⟨Try.func83, rfl, by kernel_rfl, by kernel_rfl, by kernel_rfl, by kernel_rfl⟩ (ev_sAny x)
def waitsB (l : List LockX) (x : TxX) : Bool := l.any fun y => txEq y.tx x
theorem ev_sWaits : ∀ x, evFnX tab [] (pureC (LocksX × TxX) [(.rd, true), (.rd, true)] [false] (fun x => [x.1.ds, x.2.ds]) (fun x => [[.lf (.bool (waitsB x.1.wait x.2))]])) Try.f84 (body Try.f84) x := by
  rintro ⟨⟨l0, l⟩, x⟩
  conv => whnf
  intro h1
  replace h1 : l.length ≤ 9223372036854775807 := h1
  conv => whnf
  refine ⟨fun m s h => ∃ i : Nat, i ≤ l.length ∧ (∀ j y, j < i → l[j]? = some y → txEq y.tx x = false) ∧ m = l.length - i ∧ s = [(10, .lf (.int .i64 i)), (9, .lf (.int .i64 l.length)), (8, .sl 1 none), (3, .pt 48 0 0)] ∧ h = [(48, some (.arr true 3 [x.vs])), (1, some (.row .lent 6 LockX.ds l))],
    l.length, [(48, 48), (1, 1)], [(10, .lf (.int .i64 0)), (9, .lf (.int .i64 l.length)), (8, .sl 1 none), (3, .pt 48 0 0)], [(48, some (.arr true 3 [x.vs])), (1, some (.row .lent 6 LockX.ds l))], ⟨rfl, ⟨rfl, rfl, rfl, rfl, trivial⟩, ⟨rfl, rfl, trivial⟩⟩, ⟨0, by omega, fun j y h => by omega, by omega, rfl, rfl⟩, ?_⟩
  rintro m _ _ ⟨i, g1, g2, rfl, rfl, rfl⟩
  conv => whnf
  refine br2 (fun h5 => ?_) (fun h5 => ?_)
  · have hi : i < l.length := by have := of_decide_eq_true h5; omega
    obtain ⟨y, hy⟩ : ∃ y, l[i]? = some y := ⟨_, List.getElem?_eq_getElem hi⟩
    have hy2 : nth l ((i : Nat) : Int).toNat = some y := by rw [nth_eq, Int.toNat_natCast]; exact hy
    conv => whnf
    refine ⟨Int.natCast_nonneg _, (show (i : Int) < (l.length : Int) by omega), ?_⟩
    conv => whnf
    refine ex2 y hy2 ?_
    conv => whnf
    refine br2 (fun h6 => ?_) (fun h6 => ?_)
    · conv => whnf
      refine ⟨⟨rfl, ?_⟩⟩
      have : waitsB l x = true := any_at (p := fun y : LockX => txEq y.tx x) hy h6
      show _ = [[D.lf (.bool (waitsB l x))]]
      rw [this]
    · replace h6 : txEq y.tx x = false := h6
      conv => whnf
      refine ⟨l.length - (i + 1), [(48, 48), (1, 1)], [(10, .lf (.int .i64 ((i + 1 : Nat) : Int))), (9, .lf (.int .i64 l.length)), (8, .sl 1 none), (3, .pt 48 0 0)], [(48, some (.arr true 3 [x.vs])), (1, some (.row .lent 6 LockX.ds l))], by omega, ⟨rfl, ⟨?_, rfl, rfl, rfl, trivial⟩, ⟨rfl, rfl, trivial⟩⟩, i + 1, by omega, fun j z hj hz => ?_, rfl, rfl, rfl⟩
      · show V.lf (.int .i64 (IntKind.i64.wrap ((i : Int) + 1))) = _
        rw [w64 (by omega) (by omega)]; rfl
      · rcases Nat.lt_or_ge j i with h7 | h7
        · exact g2 j z h7 hz
        · obtain rfl : j = i := by omega
          rw [hy] at hz; cases hz; exact h6
  · have hi : i = l.length := by have := of_decide_eq_false h5; omega
    conv => whnf
    refine ⟨⟨rfl, ?_⟩⟩
    have : waitsB l x = false := any_no (p := fun y : LockX => txEq y.tx x) (by rw [← hi]; exact g2)
    show _ = [[D.lf (.bool (waitsB l x))]]
    rw [this]
theorem sWaits_ok : FnOk Try.prog 84 (pureC (LocksX × TxX) [(.rd, true), (.rd, true)] [false] (fun x => [x.1.ds, x.2.ds]) (fun x => [[.lf (.bool (waitsB x.1.wait x.2))]])) := fnOk_of fun x => fnX_at tab_ok (SOk.nil) mixed (fn := Try.f84) (code := body Try.f84) ⟨Try.func84, rfl, by kernel_rfl, by kernel_rfl, by kernel_rfl, by kernel_rfl⟩ (ev_sWaits x)

/-- Whether a range lies in another. -/
def withinB (x r : RngX) : Bool := rangeOkB x.lo x.hi && rangeOkB r.lo r.hi && !strLt x.lo r.lo && (emp r.hi || (!emp x.hi && (strLt x.hi r.hi || strEq x.hi r.hi)))
theorem ev_iRangeIn : ∀ x, evFnX tab [(64, cRangeOk)] (pureC (RngX × RngX) [(.rd, true), (.rd, true)] [false] (fun x => [x.1.ds, x.2.ds]) (fun x => [[.lf (.bool (withinB x.1 x.2))]])) Try.f18 (body Try.f18) x := by
  rintro ⟨⟨a, b⟩, ⟨c, d⟩⟩
  repeat' ((conv => whnf); first | refine br2 (fun h => ?_) (fun h => ?_) | (refine ⟨(a, b), rfl, ?_⟩; rintro _ _ ⟨rfl, rfl⟩) | (refine ⟨(c, d), rfl, ?_⟩; rintro _ _ ⟨rfl, rfl⟩))
  all_goals (conv => whnf)
  all_goals refine ⟨⟨rfl, ?_⟩⟩
  all_goals show _ = [[D.lf (.bool (withinB ⟨a, b⟩ ⟨c, d⟩))]]
  all_goals simp_all [withinB, emp]
theorem iRangeIn_ok : FnOk Try.prog 18 (pureC (RngX × RngX) [(.rd, true), (.rd, true)] [false] (fun x => [x.1.ds, x.2.ds]) (fun x => [[.lf (.bool (withinB x.1 x.2))]])) := fnOk_of fun x => fnX_at tab_ok (SOk.cons iRangeOk_ok SOk.nil) mixed (fn := Try.f18) (code := body Try.f18) ⟨Try.func18, rfl, by kernel_rfl, by kernel_rfl, by kernel_rfl, by kernel_rfl⟩ (ev_iRangeIn x)
/-! What a search asks of a lock -/
inductive PredX where
  | clash (x : LockX)
  | tx (x : TxX)
  | has (x : TxX) (r : RngX) (e : Bool)
def PredX.d : PredX → D
  | .clash x => .fn 136 [.box x.ds]
  | .tx x => .fn 138 [.box x.ds]
  | .has x r e => .fn 140 [.box x.ds, .box r.ds, .box [.lf (.bool e)]]
def PredX.ask : PredX → LockX → Bool
  | .clash x, y => clashB x y
  | .tx x, y => txEq y.tx x
  | .has x r e, y => txEq y.tx x && withinB r y.rng && (y.ex || !e)
theorem ev_pClash : ∀ x, evFnX tab [(137, cClash)] (pureC (LockX × LockX) [(.rd, true), (.rd, false)] [false] (fun x => [x.1.ds, [.box x.2.ds]]) (fun x => [[.lf (.bool (clashB x.2 x.1))]])) Try.f136 (body Try.f136) x := by
  rintro ⟨y, x⟩
  conv => whnf
  refine ⟨(x, y), rfl, ?_⟩
  rintro _ _ ⟨rfl, rfl⟩
  conv => whnf
  exact ⟨⟨rfl, rfl⟩⟩
theorem pClash_ok : FnOk Try.prog 136 (pureC (LockX × LockX) [(.rd, true), (.rd, false)] [false] (fun x => [x.1.ds, [.box x.2.ds]]) (fun x => [[.lf (.bool (clashB x.2 x.1))]])) := fnOk_of fun x => fnX_at tab_ok (SOk.cons iClash_ok SOk.nil) mixed (fn := Try.f136) (code := body Try.f136) ⟨Try.func136, rfl, by kernel_rfl, by kernel_rfl, by kernel_rfl, by kernel_rfl⟩ (ev_pClash x)
theorem ev_pTx : ∀ x, evFnX tab [] (pureC (LockX × TxX) [(.rd, true), (.rd, false)] [false] (fun x => [x.1.ds, [.box x.2.ds]]) (fun x => [[.lf (.bool (txEq x.1.tx x.2))]])) Try.f138 (body Try.f138) x := by
  rintro ⟨y, x⟩
  conv => whnf
  exact ⟨⟨rfl, rfl⟩⟩
theorem pTx_ok : FnOk Try.prog 138 (pureC (LockX × TxX) [(.rd, true), (.rd, false)] [false] (fun x => [x.1.ds, [.box x.2.ds]]) (fun x => [[.lf (.bool (txEq x.1.tx x.2))]])) := fnOk_of fun x => fnX_at tab_ok (SOk.nil) mixed (fn := Try.f138) (code := body Try.f138) ⟨Try.func138, rfl, by kernel_rfl, by kernel_rfl, by kernel_rfl, by kernel_rfl⟩ (ev_pTx x)
theorem ev_pHas : ∀ x, evFnX tab [(18, (pureC (RngX × RngX) [(.rd, true), (.rd, true)] [false] (fun x => [x.1.ds, x.2.ds]) (fun x => [[.lf (.bool (withinB x.1 x.2))]])))] (pureC (LockX × TxX × RngX × Bool) [(.rd, true), (.rd, false), (.rd, false), (.rd, false)] [false] (fun x => [x.1.ds, [.box x.2.1.ds], [.box x.2.2.1.ds], [.box [.lf (.bool x.2.2.2)]]]) (fun x => [[.lf (.bool (PredX.ask (.has x.2.1 x.2.2.1 x.2.2.2) x.1))]])) Try.f140 (body Try.f140) x := by
  rintro ⟨y, x, r, e⟩
  have e0 : ∀ b, (((y, x, r, e).fst.tx.c == (y, x, r, e).snd.fst.c &&
        ((y, x, r, e).fst.tx.e == (y, x, r, e).snd.fst.e && ((y, x, r, e).fst.tx.n == (y, x, r, e).snd.fst.n && true))) = b) = (txEq y.tx x = b) := fun _ => rfl
  have e2 : ∀ b, ((y, x, r, e).fst.ex = b) = (y.ex = b) := fun _ => rfl
  have ex : PredX.ask (.has x r e) y = (txEq y.tx x && withinB r y.rng && (y.ex || !e)) := rfl
  repeat' ((conv => whnf); first | refine br2 (fun h => ?_) (fun h => ?_) | (refine ⟨(r, y.rng), rfl, ?_⟩; rintro _ _ ⟨rfl, rfl⟩))
  all_goals (conv => whnf)
  all_goals refine ⟨⟨rfl, ?_⟩⟩
  all_goals show _ = [[D.lf (.bool (PredX.ask (.has x r e) y))]]
  all_goals simp only [e0, e2] at *
  all_goals rw [ex]
  all_goals simp_all
theorem pHas_ok : FnOk Try.prog 140 (pureC (LockX × TxX × RngX × Bool) [(.rd, true), (.rd, false), (.rd, false), (.rd, false)] [false] (fun x => [x.1.ds, [.box x.2.1.ds], [.box x.2.2.1.ds], [.box [.lf (.bool x.2.2.2)]]]) (fun x => [[.lf (.bool (PredX.ask (.has x.2.1 x.2.2.1 x.2.2.2) x.1))]])) := fnOk_of fun x => fnX_at tab_ok (SOk.cons iRangeIn_ok SOk.nil) mixed (fn := Try.f140) (code := body Try.f140) ⟨Try.func140, rfl, by kernel_rfl, by kernel_rfl, by kernel_rfl, by kernel_rfl⟩ (ev_pHas x)
def cIdx : Con := relC (List LockX × PredX) [(.rd, false), (.rd, false)] [false] (fun x => [[.row 6 LockX.ds x.1], [x.2.d]]) (fun x r => ∃ k : Int, r = [[.lf (.int .i64 k)]] ∧ decide (0 ≤ k) = x.1.any x.2.ask)
def PredX.v : PredX → V
  | .clash x => .fn 136 [.pt 16 0 0]
  | .tx x => .fn 138 [.pt 16 0 0]
  | .has x r e => .fn 140 [.pt 16 0 0, .pt 17 0 0, .pt 18 0 0]
def RngX.vs (x : RngX) : List V := [.lf (.string x.lo), .lf (.string x.hi)]
def PredX.hp : PredX → Hp → Hp
  | .clash x, h => (16, some (.arr false 6 [x.vs])) :: h
  | .tx x, h => (16, some (.arr false 3 [x.vs])) :: h
  | .has x r e, h => (18, some (.arr false 1 [[.lf (.bool e)]])) :: (17, some (.arr false 2 [r.vs])) :: (16, some (.arr false 3 [x.vs])) :: h
def PredX.ren : PredX → List (Nat × Nat)
  | .clash x => [(16, 16), (0, 0)]
  | .tx x => [(16, 16), (0, 0)]
  | .has x r e => [(18, 18), (17, 17), (16, 16), (0, 0)]
theorem ev_idxL : ∀ x, evFnX tab [(136, (pureC (LockX × LockX) [(.rd, true), (.rd, false)] [false] (fun x => [x.1.ds, [.box x.2.ds]]) (fun x => [[.lf (.bool (clashB x.2 x.1))]]))), (138, (pureC (LockX × TxX) [(.rd, true), (.rd, false)] [false] (fun x => [x.1.ds, [.box x.2.ds]]) (fun x => [[.lf (.bool (txEq x.1.tx x.2))]]))), (140, (pureC (LockX × TxX × RngX × Bool) [(.rd, true), (.rd, false), (.rd, false), (.rd, false)] [false] (fun x => [x.1.ds, [.box x.2.1.ds], [.box x.2.2.1.ds], [.box [.lf (.bool x.2.2.2)]]]) (fun x => [[.lf (.bool (PredX.ask (.has x.2.1 x.2.2.1 x.2.2.2) x.1))]])))] cIdx Try.f161 (body Try.f161) x := by
  rintro ⟨l, p⟩
  rcases p with x | x | ⟨x, r, e⟩
  · conv => whnf
    intro h1
    replace h1 : l.length ≤ 9223372036854775807 := h1
    conv => whnf
    refine ⟨fun m s h => ∃ i : Nat, i ≤ l.length ∧ (∀ j y, j < i → l[j]? = some y → (PredX.clash x).ask y = false) ∧ m = l.length - i ∧ s = [(8, .lf (.int .i64 i)), (7, .lf (.int .i64 l.length)), (6, .sl 0 none), (1, (PredX.clash x).v), (0, .sl 0 none)] ∧ h = (PredX.clash x).hp [(0, some (.row .lent 6 LockX.ds l))],
      l.length, (PredX.clash x).ren, [(8, .lf (.int .i64 0)), (7, .lf (.int .i64 l.length)), (6, .sl 0 none), (1, (PredX.clash x).v), (0, .sl 0 none)], (PredX.clash x).hp [(0, some (.row .lent 6 LockX.ds l))], ⟨rfl, ⟨rfl, rfl, rfl, rfl, rfl, trivial⟩, by repeat' first | exact trivial | refine ⟨rfl, ?_⟩⟩, ⟨0, by omega, fun j y h => by omega, by omega, rfl, rfl⟩, ?_⟩
    rintro m _ _ ⟨i, g1, g2, rfl, rfl, rfl⟩
    conv => whnf
    refine br2 (fun h5 => ?_) (fun h5 => ?_)
    · have hi : i < l.length := by have := of_decide_eq_true h5; omega
      obtain ⟨y, hy⟩ : ∃ y, l[i]? = some y := ⟨_, List.getElem?_eq_getElem hi⟩
      have hy2 : nth l ((i : Nat) : Int).toNat = some y := by rw [nth_eq, Int.toNat_natCast]; exact hy
      conv => whnf
      refine ⟨Int.natCast_nonneg _, (show (i : Int) < (l.length : Int) by omega), ?_⟩
      conv => whnf
      refine ex2 y hy2 ?_
      conv => whnf
      first | refine ⟨(y, x), rfl, ?_⟩ | refine ⟨(y, x, r, e), rfl, ?_⟩
      rintro _ _ ⟨rfl, rfl⟩
      conv => whnf
      refine br2 (fun h6 => ?_) (fun h6 => ?_)
      · conv => whnf
        refine ⟨⟨rfl, _, rfl, ?_⟩⟩
        have : l.any (PredX.clash x).ask = true := any_at hy h6
        show decide (0 ≤ (i : Int)) = l.any (PredX.clash x).ask
        rw [this, decide_eq_true_iff]
        omega
      · replace h6 : (PredX.clash x).ask y = false := h6
        conv => whnf
        refine ⟨l.length - (i + 1), (PredX.clash x).ren, [(8, .lf (.int .i64 ((i + 1 : Nat) : Int))), (7, .lf (.int .i64 l.length)), (6, .sl 0 none), (1, (PredX.clash x).v), (0, .sl 0 none)], (PredX.clash x).hp [(0, some (.row .lent 6 LockX.ds l))], by omega, ⟨rfl, ⟨?_, rfl, rfl, rfl, rfl, trivial⟩, by repeat' first | exact trivial | refine ⟨rfl, ?_⟩⟩, i + 1, by omega, fun j z hj hz => ?_, rfl, rfl, rfl⟩
        · show V.lf (.int .i64 (IntKind.i64.wrap ((i : Int) + 1))) = _
          rw [w64 (by omega) (by omega)]; rfl
        · rcases Nat.lt_or_ge j i with h7 | h7
          · exact g2 j z h7 hz
          · obtain rfl : j = i := by omega
            rw [hy] at hz; cases hz; exact h6
    · have hi : i = l.length := by have := of_decide_eq_false h5; omega
      conv => whnf
      refine ⟨⟨rfl, _, rfl, ?_⟩⟩
      have : l.any (PredX.clash x).ask = false := any_no (by rw [← hi]; exact g2)
      show decide ((0 : Int) ≤ -1) = l.any (PredX.clash x).ask
      rw [this]
      rfl
  · conv => whnf
    intro h1
    replace h1 : l.length ≤ 9223372036854775807 := h1
    conv => whnf
    refine ⟨fun m s h => ∃ i : Nat, i ≤ l.length ∧ (∀ j y, j < i → l[j]? = some y → (PredX.tx x).ask y = false) ∧ m = l.length - i ∧ s = [(8, .lf (.int .i64 i)), (7, .lf (.int .i64 l.length)), (6, .sl 0 none), (1, (PredX.tx x).v), (0, .sl 0 none)] ∧ h = (PredX.tx x).hp [(0, some (.row .lent 6 LockX.ds l))],
      l.length, (PredX.tx x).ren, [(8, .lf (.int .i64 0)), (7, .lf (.int .i64 l.length)), (6, .sl 0 none), (1, (PredX.tx x).v), (0, .sl 0 none)], (PredX.tx x).hp [(0, some (.row .lent 6 LockX.ds l))], ⟨rfl, ⟨rfl, rfl, rfl, rfl, rfl, trivial⟩, by repeat' first | exact trivial | refine ⟨rfl, ?_⟩⟩, ⟨0, by omega, fun j y h => by omega, by omega, rfl, rfl⟩, ?_⟩
    rintro m _ _ ⟨i, g1, g2, rfl, rfl, rfl⟩
    conv => whnf
    refine br2 (fun h5 => ?_) (fun h5 => ?_)
    · have hi : i < l.length := by have := of_decide_eq_true h5; omega
      obtain ⟨y, hy⟩ : ∃ y, l[i]? = some y := ⟨_, List.getElem?_eq_getElem hi⟩
      have hy2 : nth l ((i : Nat) : Int).toNat = some y := by rw [nth_eq, Int.toNat_natCast]; exact hy
      conv => whnf
      refine ⟨Int.natCast_nonneg _, (show (i : Int) < (l.length : Int) by omega), ?_⟩
      conv => whnf
      refine ex2 y hy2 ?_
      conv => whnf
      first | refine ⟨(y, x), rfl, ?_⟩ | refine ⟨(y, x, r, e), rfl, ?_⟩
      rintro _ _ ⟨rfl, rfl⟩
      conv => whnf
      refine br2 (fun h6 => ?_) (fun h6 => ?_)
      · conv => whnf
        refine ⟨⟨rfl, _, rfl, ?_⟩⟩
        have : l.any (PredX.tx x).ask = true := any_at hy h6
        show decide (0 ≤ (i : Int)) = l.any (PredX.tx x).ask
        rw [this, decide_eq_true_iff]
        omega
      · replace h6 : (PredX.tx x).ask y = false := h6
        conv => whnf
        refine ⟨l.length - (i + 1), (PredX.tx x).ren, [(8, .lf (.int .i64 ((i + 1 : Nat) : Int))), (7, .lf (.int .i64 l.length)), (6, .sl 0 none), (1, (PredX.tx x).v), (0, .sl 0 none)], (PredX.tx x).hp [(0, some (.row .lent 6 LockX.ds l))], by omega, ⟨rfl, ⟨?_, rfl, rfl, rfl, rfl, trivial⟩, by repeat' first | exact trivial | refine ⟨rfl, ?_⟩⟩, i + 1, by omega, fun j z hj hz => ?_, rfl, rfl, rfl⟩
        · show V.lf (.int .i64 (IntKind.i64.wrap ((i : Int) + 1))) = _
          rw [w64 (by omega) (by omega)]; rfl
        · rcases Nat.lt_or_ge j i with h7 | h7
          · exact g2 j z h7 hz
          · obtain rfl : j = i := by omega
            rw [hy] at hz; cases hz; exact h6
    · have hi : i = l.length := by have := of_decide_eq_false h5; omega
      conv => whnf
      refine ⟨⟨rfl, _, rfl, ?_⟩⟩
      have : l.any (PredX.tx x).ask = false := any_no (by rw [← hi]; exact g2)
      show decide ((0 : Int) ≤ -1) = l.any (PredX.tx x).ask
      rw [this]
      rfl
  · conv => whnf
    intro h1
    replace h1 : l.length ≤ 9223372036854775807 := h1
    conv => whnf
    refine ⟨fun m s h => ∃ i : Nat, i ≤ l.length ∧ (∀ j y, j < i → l[j]? = some y → (PredX.has x r e).ask y = false) ∧ m = l.length - i ∧ s = [(8, .lf (.int .i64 i)), (7, .lf (.int .i64 l.length)), (6, .sl 0 none), (1, (PredX.has x r e).v), (0, .sl 0 none)] ∧ h = (PredX.has x r e).hp [(0, some (.row .lent 6 LockX.ds l))],
      l.length, (PredX.has x r e).ren, [(8, .lf (.int .i64 0)), (7, .lf (.int .i64 l.length)), (6, .sl 0 none), (1, (PredX.has x r e).v), (0, .sl 0 none)], (PredX.has x r e).hp [(0, some (.row .lent 6 LockX.ds l))], ⟨rfl, ⟨rfl, rfl, rfl, rfl, rfl, trivial⟩, by repeat' first | exact trivial | refine ⟨rfl, ?_⟩⟩, ⟨0, by omega, fun j y h => by omega, by omega, rfl, rfl⟩, ?_⟩
    rintro m _ _ ⟨i, g1, g2, rfl, rfl, rfl⟩
    conv => whnf
    refine br2 (fun h5 => ?_) (fun h5 => ?_)
    · have hi : i < l.length := by have := of_decide_eq_true h5; omega
      obtain ⟨y, hy⟩ : ∃ y, l[i]? = some y := ⟨_, List.getElem?_eq_getElem hi⟩
      have hy2 : nth l ((i : Nat) : Int).toNat = some y := by rw [nth_eq, Int.toNat_natCast]; exact hy
      conv => whnf
      refine ⟨Int.natCast_nonneg _, (show (i : Int) < (l.length : Int) by omega), ?_⟩
      conv => whnf
      refine ex2 y hy2 ?_
      conv => whnf
      first | refine ⟨(y, x), rfl, ?_⟩ | refine ⟨(y, x, r, e), rfl, ?_⟩
      rintro _ _ ⟨rfl, rfl⟩
      conv => whnf
      refine br2 (fun h6 => ?_) (fun h6 => ?_)
      · conv => whnf
        refine ⟨⟨rfl, _, rfl, ?_⟩⟩
        have : l.any (PredX.has x r e).ask = true := any_at hy h6
        show decide (0 ≤ (i : Int)) = l.any (PredX.has x r e).ask
        rw [this, decide_eq_true_iff]
        omega
      · replace h6 : (PredX.has x r e).ask y = false := h6
        conv => whnf
        refine ⟨l.length - (i + 1), (PredX.has x r e).ren, [(8, .lf (.int .i64 ((i + 1 : Nat) : Int))), (7, .lf (.int .i64 l.length)), (6, .sl 0 none), (1, (PredX.has x r e).v), (0, .sl 0 none)], (PredX.has x r e).hp [(0, some (.row .lent 6 LockX.ds l))], by omega, ⟨rfl, ⟨?_, rfl, rfl, rfl, rfl, trivial⟩, by repeat' first | exact trivial | refine ⟨rfl, ?_⟩⟩, i + 1, by omega, fun j z hj hz => ?_, rfl, rfl, rfl⟩
        · show V.lf (.int .i64 (IntKind.i64.wrap ((i : Int) + 1))) = _
          rw [w64 (by omega) (by omega)]; rfl
        · rcases Nat.lt_or_ge j i with h7 | h7
          · exact g2 j z h7 hz
          · obtain rfl : j = i := by omega
            rw [hy] at hz; cases hz; exact h6
    · have hi : i = l.length := by have := of_decide_eq_false h5; omega
      conv => whnf
      refine ⟨⟨rfl, _, rfl, ?_⟩⟩
      have : l.any (PredX.has x r e).ask = false := any_no (by rw [← hi]; exact g2)
      show decide ((0 : Int) ≤ -1) = l.any (PredX.has x r e).ask
      rw [this]
      rfl
theorem idxL_ok : FnOk Try.prog 161 cIdx := fnOk_of fun x => fnX_at tab_ok (SOk.cons pClash_ok (SOk.cons pTx_ok (SOk.cons pHas_ok SOk.nil))) mixed (fn := Try.f161) (code := body Try.f161) ⟨Try.func161, rfl, by kernel_rfl, by kernel_rfl, by kernel_rfl, by kernel_rfl⟩ (ev_idxL x)
theorem ev_conL : ∀ x, evFnX tab [(161, cIdx)] (pureC (List LockX × PredX) [(.rd, false), (.rd, false)] [false] (fun x => [[.row 6 LockX.ds x.1], [x.2.d]]) (fun x => [[.lf (.bool (x.1.any x.2.ask))]])) Try.f135 (body Try.f135) x := by
  rintro ⟨l, p⟩
  rcases p with x | x | ⟨x, r, e⟩
  · conv => whnf
    refine ⟨(l, (PredX.clash x)), rfl, ?_⟩
    rintro _ _ ⟨rfl, k, rfl, k1⟩
    conv => whnf
    refine ⟨⟨rfl, ?_⟩⟩
    replace k1 : decide (0 ≤ k) = l.any (PredX.clash x).ask := k1
    show _ = [[D.lf (.bool (l.any (PredX.clash x).ask))]]
    rw [← k1]
  · conv => whnf
    refine ⟨(l, (PredX.tx x)), rfl, ?_⟩
    rintro _ _ ⟨rfl, k, rfl, k1⟩
    conv => whnf
    refine ⟨⟨rfl, ?_⟩⟩
    replace k1 : decide (0 ≤ k) = l.any (PredX.tx x).ask := k1
    show _ = [[D.lf (.bool (l.any (PredX.tx x).ask))]]
    rw [← k1]
  · conv => whnf
    refine ⟨(l, (PredX.has x r e)), rfl, ?_⟩
    rintro _ _ ⟨rfl, k, rfl, k1⟩
    conv => whnf
    refine ⟨⟨rfl, ?_⟩⟩
    replace k1 : decide (0 ≤ k) = l.any (PredX.has x r e).ask := k1
    show _ = [[D.lf (.bool (l.any (PredX.has x r e).ask))]]
    rw [← k1]
theorem conL_ok : FnOk Try.prog 135 (pureC (List LockX × PredX) [(.rd, false), (.rd, false)] [false] (fun x => [[.row 6 LockX.ds x.1], [x.2.d]]) (fun x => [[.lf (.bool (x.1.any x.2.ask))]])) := fnOk_of fun x => fnX_at tab_ok (SOk.cons idxL_ok SOk.nil) mixed (fn := Try.f135) (code := body Try.f135) ⟨Try.func135, rfl, by kernel_rfl, by kernel_rfl, by kernel_rfl, by kernel_rfl⟩ (ev_conL x)
def lsEnc (l : List LockX) : List D := [.row 6 LockX.ds l]
def freeB (x : LockX) (L : List (List LockX)) : Bool := L.all fun l => !l.any (clashB x)
theorem ev_isFree : ∀ x, evFnX tab [(135, (pureC (List LockX × PredX) [(.rd, false), (.rd, false)] [false] (fun x => [[.row 6 LockX.ds x.1], [x.2.d]]) (fun x => [[.lf (.bool (x.1.any x.2.ask))]])))] (pureC (LockX × List (List LockX)) [(.rd, true), (.rd, false)] [false] (fun x => [x.1.ds, [.row 1 lsEnc x.2]]) (fun x => [[.lf (.bool (freeB x.1 x.2))]])) Try.f87 (body Try.f87) x := by
  rintro ⟨x, L⟩
  conv => whnf
  intro h1
  replace h1 : L.length ≤ 9223372036854775807 := h1
  conv => whnf
  refine ⟨fun m s h => ∃ i : Nat, i ≤ L.length ∧ (∀ j y, j < i → L[j]? = some y → y.any (clashB x) = false) ∧ m = L.length - i ∧ s = [(9, .lf (.int .i64 i)), (8, .lf (.int .i64 L.length)), (7, .sl 16 none), (2, .pt 32 0 0)] ∧ h = [(32, some (.arr true 6 [x.vs])), (16, some (.row .lent 1 lsEnc L))],
    L.length, [(32, 32), (16, 16)], [(9, .lf (.int .i64 0)), (8, .lf (.int .i64 L.length)), (7, .sl 16 none), (2, .pt 32 0 0)], [(32, some (.arr true 6 [x.vs])), (16, some (.row .lent 1 lsEnc L))], ⟨rfl, ⟨rfl, rfl, rfl, rfl, trivial⟩, ⟨rfl, rfl, trivial⟩⟩, ⟨0, by omega, fun j y h => by omega, by omega, rfl, rfl⟩, ?_⟩
  rintro m _ _ ⟨i, g1, g2, rfl, rfl, rfl⟩
  conv => whnf
  refine br2 (fun h5 => ?_) (fun h5 => ?_)
  · have hi : i < L.length := by have := of_decide_eq_true h5; omega
    obtain ⟨y, hy⟩ : ∃ y, L[i]? = some y := ⟨_, List.getElem?_eq_getElem hi⟩
    have hy2 : nth L ((i : Nat) : Int).toNat = some y := by rw [nth_eq, Int.toNat_natCast]; exact hy
    conv => whnf
    refine ⟨Int.natCast_nonneg _, (show (i : Int) < (L.length : Int) by omega), ?_⟩
    conv => whnf
    refine ex2 y hy2 ?_
    conv => whnf
    refine ⟨(y, .clash x), rfl, ?_⟩
    rintro _ _ ⟨rfl, rfl⟩
    conv => whnf
    refine br2 (fun h6 => ?_) (fun h6 => ?_)
    · conv => whnf
      refine ⟨⟨rfl, ?_⟩⟩
      have : freeB x L = false := by
        rw [freeB, List.all_eq_false]
        exact ⟨y, List.mem_of_getElem? hy, by rw [show y.any (clashB x) = true from h6]; simp⟩
      show _ = [[D.lf (.bool (freeB x L))]]
      rw [this]
    · replace h6 : y.any (clashB x) = false := h6
      conv => whnf
      refine ⟨L.length - (i + 1), [(32, 32), (16, 16)], [(9, .lf (.int .i64 ((i + 1 : Nat) : Int))), (8, .lf (.int .i64 L.length)), (7, .sl 16 none), (2, .pt 32 0 0)], [(32, some (.arr true 6 [x.vs])), (16, some (.row .lent 1 lsEnc L))], by omega, ⟨rfl, ⟨?_, rfl, rfl, rfl, trivial⟩, ⟨rfl, rfl, trivial⟩⟩, i + 1, by omega, fun j z hj hz => ?_, rfl, rfl, rfl⟩
      · show V.lf (.int .i64 (IntKind.i64.wrap ((i : Int) + 1))) = _
        rw [w64 (by omega) (by omega)]; rfl
      · rcases Nat.lt_or_ge j i with h7 | h7
        · exact g2 j z h7 hz
        · obtain rfl : j = i := by omega
          rw [hy] at hz; cases hz; exact h6
  · have hi : i = L.length := by have := of_decide_eq_false h5; omega
    conv => whnf
    refine ⟨⟨rfl, ?_⟩⟩
    have : freeB x L = true := by
      rw [freeB, List.all_eq_true]
      intro y hy
      obtain ⟨j, hj⟩ := List.getElem?_of_mem hy
      rw [g2 j y (by rw [hi]; exact (List.getElem?_eq_some_iff.1 hj).1) hj]; rfl
    show _ = [[D.lf (.bool (freeB x L))]]
    rw [this]
theorem isFree_ok : FnOk Try.prog 87 (pureC (LockX × List (List LockX)) [(.rd, true), (.rd, false)] [false] (fun x => [x.1.ds, [.row 1 lsEnc x.2]]) (fun x => [[.lf (.bool (freeB x.1 x.2))]])) := fnOk_of fun x => fnX_at tab_ok (SOk.cons conL_ok SOk.nil) mixed (fn := Try.f87) (code := body Try.f87) ⟨Try.func87, rfl, by kernel_rfl, by kernel_rfl, by kernel_rfl, by kernel_rfl⟩ (ev_isFree x)
theorem ev_waits : ∀ x, evFnX tab [(135, (pureC (List LockX × PredX) [(.rd, false), (.rd, false)] [false] (fun x => [[.row 6 LockX.ds x.1], [x.2.d]]) (fun x => [[.lf (.bool (x.1.any x.2.ask))]])))] (pureC (LocksX × TxX) [(.rd, false), (.rd, true)] [false] (fun x => [[.box x.1.ds], x.2.ds]) (fun x => [[.lf (.bool (waitsB x.1.wait x.2))]])) Try.f88 (body Try.f88) x := by
  rintro ⟨⟨l0, l⟩, x⟩
  conv => whnf
  refine ⟨(l, .tx x), rfl, ?_⟩
  rintro _ _ ⟨rfl, rfl⟩
  conv => whnf
  exact ⟨⟨rfl, rfl⟩⟩
theorem waits_ok : FnOk Try.prog 88 (pureC (LocksX × TxX) [(.rd, false), (.rd, true)] [false] (fun x => [[.box x.1.ds], x.2.ds]) (fun x => [[.lf (.bool (waitsB x.1.wait x.2))]])) := fnOk_of fun x => fnX_at tab_ok (SOk.cons conL_ok SOk.nil) mixed (fn := Try.f88) (code := body Try.f88) ⟨Try.func88, rfl, by kernel_rfl, by kernel_rfl, by kernel_rfl, by kernel_rfl⟩ (ev_waits x)
end Go.Vm
namespace Go.Vm
open Go.Proofs
set_option maxRecDepth 100000
set_option linter.unusedVariables false
set_option linter.unusedSimpArgs false

def heldP (l : List LockX) (i : Nat) (y : LockX) : Prop := lockOkB y = true ∧ anyB (l.take i) y = false
def waitP (h l : List LockX) (i : Nat) (y : LockX) : Prop := lockOkB y = true ∧ waitsB (l.take i) y.tx = false ∧ (anyB h y = true ∨ anyB (l.take i) y = true)
def LocksOkP (x : LocksX) : Prop := IntKind.i64.wrap ((x.held.length : Int) + x.wait.length) ≤ 60 ∧ (∀ i y, x.held[i]? = some y → heldP x.held i y) ∧ ∀ i y, x.wait[i]? = some y → waitP x.held x.wait i y
def cLocksOk : Con := relC LocksX [(.rd, true)] [false] (fun x => [x.ds]) (fun x r => ∃ b : Bool, r = [[.lf (.bool b)]] ∧ (b = true ↔ LocksOkP x))
theorem ev_sLocksOk : ∀ x, evFnX tab [(82, (pureC LockX [(.rd, true)] [false] (fun x => [x.ds]) (fun x => [[.lf (.bool (lockOkB x))]]))), (83, cAny), (84, (pureC (LocksX × TxX) [(.rd, true), (.rd, true)] [false] (fun x => [x.1.ds, x.2.ds]) (fun x => [[.lf (.bool (waitsB x.1.wait x.2))]])))] cLocksOk Try.f28 (body Try.f28) x := by
  rintro ⟨l, w⟩
  conv => whnf
  intro h1
  replace h1 : l.length ≤ 9223372036854775807 := h1
  conv => whnf
  intro h2
  replace h2 : w.length ≤ 9223372036854775807 := h2
  conv => whnf
  refine br2 (fun h3 => ?_) (fun h3 => ?_)
  · replace h3 : decide (IntKind.i64.wrap ((l.length : Int) + w.length) > 60) = true := h3
    have h3' : ¬ IntKind.i64.wrap ((l.length : Int) + w.length) ≤ 60 := by have := of_decide_eq_true h3; omega
    conv => whnf
    exact ⟨⟨rfl, false, rfl, (fun h => by cases h), fun h => absurd h.1 h3'⟩⟩
  replace h3 : decide (IntKind.i64.wrap ((l.length : Int) + w.length) > 60) = false := h3
  have h3' : IntKind.i64.wrap ((l.length : Int) + w.length) ≤ 60 := by have := of_decide_eq_false h3; omega
  conv => whnf
  intro _
  conv => whnf
  refine ⟨fun m s h => ∃ i : Nat, i ≤ l.length ∧ (∀ j y, j < i → l[j]? = some y → heldP l j y) ∧ m = l.length - i ∧ s = [(18, .lf (.int .i64 i)), (17, .lf (.int .i64 l.length)), (16, .sl 0 none), (1, .pt 16 0 0)] ∧ h = [(16, some (.arr true 2 [[.sl 0 none, .sl 1 none]])), (1, some (.row .lent 6 LockX.ds w)), (0, some (.row .lent 6 LockX.ds l))],
    l.length, [(16, 16), (1, 1), (0, 0)], [(18, .lf (.int .i64 0)), (17, .lf (.int .i64 l.length)), (16, .sl 0 none), (1, .pt 16 0 0)], [(16, some (.arr true 2 [[.sl 0 none, .sl 1 none]])), (1, some (.row .lent 6 LockX.ds w)), (0, some (.row .lent 6 LockX.ds l))], ⟨rfl, ⟨rfl, rfl, rfl, rfl, trivial⟩, ⟨rfl, rfl, rfl, trivial⟩⟩, ⟨0, by omega, fun j y h => by omega, by omega, rfl, rfl⟩, ?_⟩
  rintro m _ _ ⟨i, g1, g2, rfl, rfl, rfl⟩
  conv => whnf
  refine br2 (fun h5 => ?_) (fun h5 => ?_)
  · have hi : i < l.length := by have := of_decide_eq_true h5; omega
    obtain ⟨y, hy⟩ : ∃ y, l[i]? = some y := ⟨_, List.getElem?_eq_getElem hi⟩
    have hy2 : nth l ((i : Nat) : Int).toNat = some y := by rw [nth_eq, Int.toNat_natCast]; exact hy
    conv => whnf
    refine ⟨Int.natCast_nonneg _, (show (i : Int) < (l.length : Int) by omega), ?_⟩
    conv => whnf
    refine ex2 y hy2 ?_
    conv => whnf
    refine ⟨y, rfl, ?_⟩
    rintro _ _ ⟨rfl, rfl⟩
    conv => whnf
    refine br2 (fun h6 => ?_) (fun h6 => ?_)
    · conv => whnf
      refine ⟨⟨rfl, false, rfl, (fun h => by cases h), fun h => absurd (h.2.1 i y hy).1 ?_⟩⟩
      rw [nt_t h6]; simp
    replace h6 := nt_f h6
    conv => whnf
    refine ⟨Int.le_refl _, Int.natCast_nonneg _, (show (i : Int) ≤ (l.length : Int) by omega), ?_⟩
    conv => whnf
    refine ⟨(l.take i, y), rfl, ?_⟩
    rintro _ _ ⟨rfl, rfl⟩
    conv => whnf
    refine br2 (fun h7 => ?_) (fun h7 => ?_)
    · conv => whnf
      refine ⟨⟨rfl, false, rfl, (fun h => by cases h), fun h => absurd (h.2.1 i y hy).2 ?_⟩⟩
      rw [show anyB (l.take i) y = true from h7]; simp
    · replace h7 : anyB (l.take i) y = false := h7
      conv => whnf
      refine ⟨l.length - (i + 1), [(16, 16), (1, 1), (0, 0)], [(18, .lf (.int .i64 ((i + 1 : Nat) : Int))), (17, .lf (.int .i64 l.length)), (16, .sl 0 none), (1, .pt 16 0 0)], [(16, some (.arr true 2 [[.sl 0 none, .sl 1 none]])), (1, some (.row .lent 6 LockX.ds w)), (0, some (.row .lent 6 LockX.ds l))], by omega, ⟨rfl, ⟨?_, rfl, rfl, rfl, trivial⟩, ⟨rfl, rfl, rfl, trivial⟩⟩, i + 1, by omega, fun j z hj hz => ?_, rfl, rfl, rfl⟩
      · show V.lf (.int .i64 (IntKind.i64.wrap ((i : Int) + 1))) = _
        rw [w64 (by omega) (by omega)]; rfl
      · rcases Nat.lt_or_ge j i with h8 | h8
        · exact g2 j z h8 hz
        · obtain rfl : j = i := by omega
          rw [hy] at hz; cases hz; exact ⟨h6, h7⟩
  have hi : i = l.length := by have := of_decide_eq_false h5; omega
  have hH : ∀ j y, l[j]? = some y → heldP l j y := fun j y hj => g2 j y (by rw [hi]; exact (List.getElem?_eq_some_iff.1 hj).1) hj
  clear g1 g2 h5 hi
  conv => whnf
  intro _
  conv => whnf
  refine ⟨fun m s h => ∃ i : Nat, i ≤ w.length ∧ (∀ j y, j < i → w[j]? = some y → waitP l w j y) ∧ m = w.length - i ∧ s = [(38, .lf (.int .i64 i)), (37, .lf (.int .i64 w.length)), (36, .sl 1 none), (1, .pt 16 0 0)] ∧ h = [(16, some (.arr true 2 [[.sl 0 none, .sl 1 none]])), (1, some (.row .lent 6 LockX.ds w)), (0, some (.row .lent 6 LockX.ds l))],
    w.length, [(16, 16), (1, 1), (0, 0)], [(38, .lf (.int .i64 0)), (37, .lf (.int .i64 w.length)), (36, .sl 1 none), (1, .pt 16 0 0)], [(16, some (.arr true 2 [[.sl 0 none, .sl 1 none]])), (1, some (.row .lent 6 LockX.ds w)), (0, some (.row .lent 6 LockX.ds l))], ⟨rfl, ⟨rfl, rfl, rfl, rfl, trivial⟩, ⟨rfl, rfl, rfl, trivial⟩⟩, ⟨0, by omega, fun j y h => by omega, by omega, rfl, rfl⟩, ?_⟩
  rintro m _ _ ⟨i, g1, g2, rfl, rfl, rfl⟩
  conv => whnf
  refine br2 (fun h5 => ?_) (fun h5 => ?_)
  · have hi : i < w.length := by have := of_decide_eq_true h5; omega
    obtain ⟨y, hy⟩ : ∃ y, w[i]? = some y := ⟨_, List.getElem?_eq_getElem hi⟩
    have hy2 : nth w ((i : Nat) : Int).toNat = some y := by rw [nth_eq, Int.toNat_natCast]; exact hy
    conv => whnf
    refine ⟨Int.natCast_nonneg _, (show (i : Int) < (w.length : Int) by omega), ?_⟩
    conv => whnf
    refine ex2 y hy2 ?_
    conv => whnf
    refine ⟨y, rfl, ?_⟩
    rintro _ _ ⟨rfl, rfl⟩
    conv => whnf
    refine br2 (fun h6 => ?_) (fun h6 => ?_)
    · conv => whnf
      refine ⟨⟨rfl, false, rfl, (fun h => by cases h), fun h => absurd (h.2.2 i y hy).1 ?_⟩⟩
      rw [nt_t h6]; simp
    replace h6 := nt_f h6
    conv => whnf
    refine ⟨Int.le_refl _, Int.natCast_nonneg _, (show (i : Int) ≤ (w.length : Int) by omega), ?_⟩
    conv => whnf
    refine ⟨6, LockX, LockX.ds, fun _ => rfl, ?_⟩
    conv => whnf
    refine ⟨(⟨[], w.take i⟩, y.tx), rfl, ?_⟩
    rintro _ _ ⟨rfl, rfl⟩
    conv => whnf
    refine br2 (fun h7 => ?_) (fun h7 => ?_)
    · conv => whnf
      refine ⟨⟨rfl, false, rfl, (fun h => by cases h), fun h => absurd (h.2.2 i y hy).2.1 ?_⟩⟩
      rw [show waitsB (w.take i) y.tx = true from h7]; simp
    · replace h7 : waitsB (w.take i) y.tx = false := h7
      conv => whnf
      refine ⟨(l, y), rfl, ?_⟩
      rintro _ _ ⟨rfl, rfl⟩
      conv => whnf
      refine br2 (fun h8 => ?_) (fun h8 => ?_)
      · replace h8 : anyB l y = false := nt_t h8
        conv => whnf
        refine ⟨Int.le_refl _, Int.natCast_nonneg _, (show (i : Int) ≤ (w.length : Int) by omega), ?_⟩
        conv => whnf
        refine ⟨(w.take i, y), rfl, ?_⟩
        rintro _ _ ⟨rfl, rfl⟩
        conv => whnf
        refine br2 (fun h9 => ?_) (fun h9 => ?_)
        · replace h9 : anyB (w.take i) y = false := nt_t h9
          conv => whnf
          refine ⟨⟨rfl, false, rfl, (fun h => by cases h), fun h => absurd (h.2.2 i y hy).2.2 ?_⟩⟩
          simp [h8, h9]
        · replace h9 : anyB (w.take i) y = true := nt_f h9
          conv => whnf
          refine ⟨w.length - (i + 1), [(16, 16), (1, 1), (0, 0)], [(38, .lf (.int .i64 ((i + 1 : Nat) : Int))), (37, .lf (.int .i64 w.length)), (36, .sl 1 none), (1, .pt 16 0 0)], [(16, some (.arr true 2 [[.sl 0 none, .sl 1 none]])), (1, some (.row .lent 6 LockX.ds w)), (0, some (.row .lent 6 LockX.ds l))], by omega, ⟨rfl, ⟨?_, rfl, rfl, rfl, trivial⟩, ⟨rfl, rfl, rfl, trivial⟩⟩, i + 1, by omega, fun j z hj hz => ?_, rfl, rfl, rfl⟩
          · show V.lf (.int .i64 (IntKind.i64.wrap ((i : Int) + 1))) = _
            rw [w64 (by omega) (by omega)]; rfl
          · rcases Nat.lt_or_ge j i with h10 | h10
            · exact g2 j z h10 hz
            · obtain rfl : j = i := by omega
              rw [hy] at hz; cases hz; exact ⟨h6, h7, .inr h9⟩
      · replace h8 : anyB l y = true := nt_f h8
        conv => whnf
        refine ⟨w.length - (i + 1), [(16, 16), (1, 1), (0, 0)], [(38, .lf (.int .i64 ((i + 1 : Nat) : Int))), (37, .lf (.int .i64 w.length)), (36, .sl 1 none), (1, .pt 16 0 0)], [(16, some (.arr true 2 [[.sl 0 none, .sl 1 none]])), (1, some (.row .lent 6 LockX.ds w)), (0, some (.row .lent 6 LockX.ds l))], by omega, ⟨rfl, ⟨?_, rfl, rfl, rfl, trivial⟩, ⟨rfl, rfl, rfl, trivial⟩⟩, i + 1, by omega, fun j z hj hz => ?_, rfl, rfl, rfl⟩
        · show V.lf (.int .i64 (IntKind.i64.wrap ((i : Int) + 1))) = _
          rw [w64 (by omega) (by omega)]; rfl
        · rcases Nat.lt_or_ge j i with h10 | h10
          · exact g2 j z h10 hz
          · obtain rfl : j = i := by omega
            rw [hy] at hz; cases hz; exact ⟨h6, h7, .inl h8⟩
  · have hi : i = w.length := by have := of_decide_eq_false h5; omega
    conv => whnf
    exact ⟨⟨rfl, true, rfl, fun _ => ⟨h3', hH, fun j y hj => g2 j y (by rw [hi]; exact (List.getElem?_eq_some_iff.1 hj).1) hj⟩, fun _ => rfl⟩⟩
theorem sLocksOk_ok : FnOk Try.prog 28 cLocksOk := fnOk_of fun x => fnX_at tab_ok (SOk.cons sLockOk_ok (SOk.cons sAny_ok (SOk.cons sWaits_ok SOk.nil))) mixed (fn := Try.f28) (code := body Try.f28) ⟨Try.func28, rfl, by kernel_rfl, by kernel_rfl, by kernel_rfl, by kernel_rfl⟩ (ev_sLocksOk x)
end Go.Vm
namespace Go.Vm
open Go.Proofs
set_option maxRecDepth 100000
set_option linter.unusedVariables false
set_option linter.unusedSimpArgs false

theorem ev_iLocksOk : ∀ x, evFnX tab [(86, (pureC LockX [(.rd, true)] [false] (fun x => [x.ds]) (fun x => [[.lf (.bool (lockOkB x))]]))), (87, (pureC (LockX × List (List LockX)) [(.rd, true), (.rd, false)] [false] (fun x => [x.1.ds, [.row 1 lsEnc x.2]]) (fun x => [[.lf (.bool (freeB x.1 x.2))]]))), (88, (pureC (LocksX × TxX) [(.rd, false), (.rd, true)] [false] (fun x => [[.box x.1.ds], x.2.ds]) (fun x => [[.lf (.bool (waitsB x.1.wait x.2))]])))] cLocksOk Try.f30 (body Try.f30) x := by
  rintro ⟨l, w⟩
  conv => whnf
  intro h1
  replace h1 : l.length ≤ 9223372036854775807 := h1
  conv => whnf
  intro h2
  replace h2 : w.length ≤ 9223372036854775807 := h2
  conv => whnf
  refine br2 (fun h3 => ?_) (fun h3 => ?_)
  · replace h3 : decide (IntKind.i64.wrap ((l.length : Int) + w.length) > 60) = true := h3
    have h3' : ¬ IntKind.i64.wrap ((l.length : Int) + w.length) ≤ 60 := by have := of_decide_eq_true h3; omega
    conv => whnf
    exact ⟨⟨rfl, false, rfl, (fun h => by cases h), fun h => absurd h.1 h3'⟩⟩
  replace h3 : decide (IntKind.i64.wrap ((l.length : Int) + w.length) > 60) = false := h3
  have h3' : IntKind.i64.wrap ((l.length : Int) + w.length) ≤ 60 := by have := of_decide_eq_false h3; omega
  conv => whnf
  intro _
  conv => whnf
  refine ⟨fun m s h => ∃ i : Nat, i ≤ l.length ∧ (∀ j y, j < i → l[j]? = some y → heldP l j y) ∧ m = l.length - i ∧ s = [(19, .lf (.int .i64 i)), (18, .lf (.int .i64 l.length)), (17, .sl 0 none), (1, .pt 16 0 0)] ∧ h = [(16, some (.arr true 2 [[.sl 0 none, .sl 1 none]])), (1, some (.row .lent 6 LockX.ds w)), (0, some (.row .lent 6 LockX.ds l))],
    l.length, [(16, 16), (1, 1), (0, 0)], [(19, .lf (.int .i64 0)), (18, .lf (.int .i64 l.length)), (17, .sl 0 none), (1, .pt 16 0 0)], [(16, some (.arr true 2 [[.sl 0 none, .sl 1 none]])), (1, some (.row .lent 6 LockX.ds w)), (0, some (.row .lent 6 LockX.ds l))], ⟨rfl, ⟨rfl, rfl, rfl, rfl, trivial⟩, ⟨rfl, rfl, rfl, trivial⟩⟩, ⟨0, by omega, fun j y h => by omega, by omega, rfl, rfl⟩, ?_⟩
  rintro m _ _ ⟨i, g1, g2, rfl, rfl, rfl⟩
  conv => whnf
  refine br2 (fun h5 => ?_) (fun h5 => ?_)
  · have hi : i < l.length := by have := of_decide_eq_true h5; omega
    obtain ⟨y, hy⟩ : ∃ y, l[i]? = some y := ⟨_, List.getElem?_eq_getElem hi⟩
    have hy2 : nth l ((i : Nat) : Int).toNat = some y := by rw [nth_eq, Int.toNat_natCast]; exact hy
    conv => whnf
    refine ⟨Int.natCast_nonneg _, (show (i : Int) < (l.length : Int) by omega), ?_⟩
    conv => whnf
    refine ex2 y hy2 ?_
    conv => whnf
    refine ⟨y, rfl, ?_⟩
    rintro _ _ ⟨rfl, rfl⟩
    conv => whnf
    refine br2 (fun h6 => ?_) (fun h6 => ?_)
    · conv => whnf
      repeat (refine rc_i rfl ?_; conv => whnf)
      refine ⟨⟨rfl, false, rfl, (fun h => by cases h), fun h => absurd (h.2.1 i y hy).1 ?_⟩⟩
      rw [nt_t h6]; simp
    replace h6 := nt_f h6
    conv => whnf
    refine ⟨Int.le_refl _, Int.natCast_nonneg _, (show (i : Int) ≤ (l.length : Int) by omega), ?_⟩
    conv => whnf
    repeat (refine rc_i rfl ?_; conv => whnf)
    refine ⟨List LockX, lsEnc, [l.take i], fun _ => rfl, rfl, ?_⟩
    conv => whnf
    refine ⟨(y, [l.take i]), rfl, ?_⟩
    rintro _ _ ⟨rfl, rfl⟩
    conv => whnf
    have hf : freeB y [l.take i] = !anyB (l.take i) y := by simp [freeB, anyB]
    refine br2 (fun h7 => ?_) (fun h7 => ?_)
    · replace h7 : (!freeB y [l.take i]) = true := h7
      rw [hf, Bool.not_not] at h7
      conv => whnf
      refine ⟨⟨rfl, false, rfl, (fun h => by cases h), fun h => absurd (h.2.1 i y hy).2 ?_⟩⟩
      rw [h7]; simp
    · replace h7 : (!freeB y [l.take i]) = false := h7
      rw [hf, Bool.not_not] at h7
      conv => whnf
      refine ⟨l.length - (i + 1), [(16, 16), (1, 1), (0, 0)], [(19, .lf (.int .i64 ((i + 1 : Nat) : Int))), (18, .lf (.int .i64 l.length)), (17, .sl 0 none), (1, .pt 16 0 0)], [(16, some (.arr true 2 [[.sl 0 none, .sl 1 none]])), (1, some (.row .lent 6 LockX.ds w)), (0, some (.row .lent 6 LockX.ds l))], by omega, ⟨rfl, ⟨?_, rfl, rfl, rfl, trivial⟩, ⟨rfl, rfl, rfl, trivial⟩⟩, i + 1, by omega, fun j z hj hz => ?_, rfl, rfl, rfl⟩
      · show V.lf (.int .i64 (IntKind.i64.wrap ((i : Int) + 1))) = _
        rw [w64 (by omega) (by omega)]; rfl
      · rcases Nat.lt_or_ge j i with h8 | h8
        · exact g2 j z h8 hz
        · obtain rfl : j = i := by omega
          rw [hy] at hz; cases hz; exact ⟨h6, h7⟩
  have hi : i = l.length := by have := of_decide_eq_false h5; omega
  have hH : ∀ j y, l[j]? = some y → heldP l j y := fun j y hj => g2 j y (by rw [hi]; exact (List.getElem?_eq_some_iff.1 hj).1) hj
  clear g1 g2 h5 hi
  conv => whnf
  intro _
  conv => whnf
  refine ⟨fun m s h => ∃ i : Nat, i ≤ w.length ∧ (∀ j y, j < i → w[j]? = some y → waitP l w j y) ∧ m = w.length - i ∧ s = [(41, .lf (.int .i64 i)), (40, .lf (.int .i64 w.length)), (39, .sl 1 none), (1, .pt 16 0 0)] ∧ h = [(16, some (.arr true 2 [[.sl 0 none, .sl 1 none]])), (1, some (.row .lent 6 LockX.ds w)), (0, some (.row .lent 6 LockX.ds l))],
    w.length, [(16, 16), (1, 1), (0, 0)], [(41, .lf (.int .i64 0)), (40, .lf (.int .i64 w.length)), (39, .sl 1 none), (1, .pt 16 0 0)], [(16, some (.arr true 2 [[.sl 0 none, .sl 1 none]])), (1, some (.row .lent 6 LockX.ds w)), (0, some (.row .lent 6 LockX.ds l))], ⟨rfl, ⟨rfl, rfl, rfl, rfl, trivial⟩, ⟨rfl, rfl, rfl, trivial⟩⟩, ⟨0, by omega, fun j y h => by omega, by omega, rfl, rfl⟩, ?_⟩
  rintro m _ _ ⟨i, g1, g2, rfl, rfl, rfl⟩
  conv => whnf
  refine br2 (fun h5 => ?_) (fun h5 => ?_)
  · have hi : i < w.length := by have := of_decide_eq_true h5; omega
    obtain ⟨y, hy⟩ : ∃ y, w[i]? = some y := ⟨_, List.getElem?_eq_getElem hi⟩
    have hy2 : nth w ((i : Nat) : Int).toNat = some y := by rw [nth_eq, Int.toNat_natCast]; exact hy
    conv => whnf
    refine ⟨Int.natCast_nonneg _, (show (i : Int) < (w.length : Int) by omega), ?_⟩
    conv => whnf
    refine ex2 y hy2 ?_
    conv => whnf
    refine ⟨Int.le_refl _, Int.natCast_nonneg _, (show (i : Int) ≤ (w.length : Int) by omega), ?_⟩
    conv => whnf
    refine ⟨y, rfl, ?_⟩
    rintro _ _ ⟨rfl, rfl⟩
    conv => whnf
    refine br2 (fun h6 => ?_) (fun h6 => ?_)
    · conv => whnf
      repeat (refine rc_i rfl ?_; conv => whnf)
      refine ⟨⟨rfl, false, rfl, (fun h => by cases h), fun h => absurd (h.2.2 i y hy).1 ?_⟩⟩
      rw [nt_t h6]; simp
    replace h6 := nt_f h6
    conv => whnf
    repeat (refine rc_i rfl ?_; conv => whnf)
    refine ⟨6, LockX, LockX.ds, fun _ => rfl, ?_⟩
    conv => whnf
    refine ⟨(⟨[], w.take i⟩, y.tx), rfl, ?_⟩
    rintro _ _ ⟨rfl, rfl⟩
    conv => whnf
    refine br2 (fun h7 => ?_) (fun h7 => ?_)
    · conv => whnf
      repeat (refine rc_i rfl ?_; conv => whnf)
      refine ⟨⟨rfl, false, rfl, (fun h => by cases h), fun h => absurd (h.2.2 i y hy).2.1 ?_⟩⟩
      rw [show waitsB (w.take i) y.tx = true from h7]; simp
    · replace h7 : waitsB (w.take i) y.tx = false := h7
      conv => whnf
      repeat (refine rc_i rfl ?_; conv => whnf)
      refine ⟨Int.le_refl _, Int.natCast_nonneg _, (show (i : Int) ≤ (w.length : Int) by omega), ?_⟩
      conv => whnf
      repeat (refine rc_i rfl ?_; conv => whnf)
      refine ⟨List LockX, lsEnc, [l, w.take i], fun _ => rfl, rfl, ?_⟩
      conv => whnf
      refine ⟨(y, [l, w.take i]), rfl, ?_⟩
      rintro _ _ ⟨rfl, rfl⟩
      conv => whnf
      have hf : freeB y [l, w.take i] = !(anyB l y || anyB (w.take i) y) := by simp [freeB, anyB]
      refine br2 (fun h8 => ?_) (fun h8 => ?_)
      · replace h8 : freeB y [l, w.take i] = true := h8
        rw [hf, Bool.not_eq_true', Bool.or_eq_false_iff] at h8
        conv => whnf
        refine ⟨⟨rfl, false, rfl, (fun h => by cases h), fun h => absurd (h.2.2 i y hy).2.2 ?_⟩⟩
        simp [h8.1, h8.2]
      · replace h8 : freeB y [l, w.take i] = false := h8
        rw [hf, Bool.not_eq_false', Bool.or_eq_true] at h8
        conv => whnf
        refine ⟨w.length - (i + 1), [(16, 16), (1, 1), (0, 0)], [(41, .lf (.int .i64 ((i + 1 : Nat) : Int))), (40, .lf (.int .i64 w.length)), (39, .sl 1 none), (1, .pt 16 0 0)], [(16, some (.arr true 2 [[.sl 0 none, .sl 1 none]])), (1, some (.row .lent 6 LockX.ds w)), (0, some (.row .lent 6 LockX.ds l))], by omega, ⟨rfl, ⟨?_, rfl, rfl, rfl, trivial⟩, ⟨rfl, rfl, rfl, trivial⟩⟩, i + 1, by omega, fun j z hj hz => ?_, rfl, rfl, rfl⟩
        · show V.lf (.int .i64 (IntKind.i64.wrap ((i : Int) + 1))) = _
          rw [w64 (by omega) (by omega)]; rfl
        · rcases Nat.lt_or_ge j i with h10 | h10
          · exact g2 j z h10 hz
          · obtain rfl : j = i := by omega
            rw [hy] at hz; cases hz; exact ⟨h6, h7, h8⟩
  · have hi : i = w.length := by have := of_decide_eq_false h5; omega
    conv => whnf
    exact ⟨⟨rfl, true, rfl, fun _ => ⟨h3', hH, fun j y hj => g2 j y (by rw [hi]; exact (List.getElem?_eq_some_iff.1 hj).1) hj⟩, fun _ => rfl⟩⟩
theorem iLocksOk_ok : FnOk Try.prog 30 cLocksOk := fnOk_of fun x => fnX_at tab_ok (SOk.cons iLockOk_ok (SOk.cons isFree_ok (SOk.cons waits_ok SOk.nil))) mixed (fn := Try.f30) (code := body Try.f30) ⟨Try.func30, rfl, by kernel_rfl, by kernel_rfl, by kernel_rfl, by kernel_rfl⟩ (ev_iLocksOk x)
end Go.Vm
namespace Go.Vm
open Go.Proofs
set_option maxRecDepth 100000
set_option linter.unusedVariables false
set_option linter.unusedSimpArgs false

theorem ev_pFree : ∀ x, evFnX tab [] (pureC (LockX × TxX) [(.rd, true), (.rd, false)] [false] (fun x => [x.1.ds, [.box x.2.ds]]) (fun x => [[.lf (.bool (txEq x.1.tx x.2))]])) Try.f151 (body Try.f151) x := by
  rintro ⟨y, x⟩
  conv => whnf
  exact ⟨⟨rfl, rfl⟩⟩
theorem pFree_ok : FnOk Try.prog 151 (pureC (LockX × TxX) [(.rd, true), (.rd, false)] [false] (fun x => [x.1.ds, [.box x.2.ds]]) (fun x => [[.lf (.bool (txEq x.1.tx x.2))]])) := fnOk_of fun x => fnX_at tab_ok (SOk.nil) mixed (fn := Try.f151) (code := body Try.f151) ⟨Try.func151, rfl, by kernel_rfl, by kernel_rfl, by kernel_rfl, by kernel_rfl⟩ (ev_pFree x)
def freeD (x : TxX) : D := .fn 151 [.box x.ds]
def cIdxF : Con := relC (List LockX × TxX) [(.rd, false), (.rd, false)] [false] (fun x => [[.row 6 LockX.ds x.1], [freeD x.2]])
  (fun x r => (r = [[.lf (.int .i64 (-1))]] ∧ ∀ y ∈ x.1, txEq y.tx x.2 = false) ∨ ∃ i : Nat, r = [[.lf (.int .i64 i)]] ∧ i < x.1.length ∧ (∀ j y, j < i → x.1[j]? = some y → txEq y.tx x.2 = false) ∧ ∃ y, x.1[i]? = some y ∧ txEq y.tx x.2 = true)
theorem ev_idxF : ∀ x, evFnX tab [(151, (pureC (LockX × TxX) [(.rd, true), (.rd, false)] [false] (fun x => [x.1.ds, [.box x.2.ds]]) (fun x => [[.lf (.bool (txEq x.1.tx x.2))]])))] cIdxF Try.f161 (body Try.f161) x := by
  rintro ⟨l, x⟩
  conv => whnf
  intro h1
  replace h1 : l.length ≤ 9223372036854775807 := h1
  conv => whnf
  refine ⟨fun m s h => ∃ i : Nat, i ≤ l.length ∧ (∀ j y, j < i → l[j]? = some y → txEq y.tx x = false) ∧ m = l.length - i ∧ s = [(8, .lf (.int .i64 i)), (7, .lf (.int .i64 l.length)), (6, .sl 0 none), (1, .fn 151 [.pt 16 0 0]), (0, .sl 0 none)] ∧ h = [(16, some (.arr false 3 [x.vs])), (0, some (.row .lent 6 LockX.ds l))],
    l.length, [(16, 16), (0, 0)], [(8, .lf (.int .i64 0)), (7, .lf (.int .i64 l.length)), (6, .sl 0 none), (1, .fn 151 [.pt 16 0 0]), (0, .sl 0 none)], [(16, some (.arr false 3 [x.vs])), (0, some (.row .lent 6 LockX.ds l))], ⟨rfl, ⟨rfl, rfl, rfl, rfl, rfl, trivial⟩, by repeat' first | exact trivial | refine ⟨rfl, ?_⟩⟩, ⟨0, by omega, fun j y h => by omega, by omega, rfl, rfl⟩, ?_⟩
  rintro m _ _ ⟨i, g1, g2, rfl, rfl, rfl⟩
  conv => whnf
  refine br2 (fun h5 => ?_) (fun h5 => ?_)
  · have hi : i < l.length := by have := of_decide_eq_true h5; omega
    obtain ⟨y, hy⟩ : ∃ y, l[i]? = some y := ⟨_, List.getElem?_eq_getElem hi⟩
    have hy2 : nth l ((i : Nat) : Int).toNat = some y := by rw [nth_eq, Int.toNat_natCast]; exact hy
    conv => whnf
    refine ⟨Int.natCast_nonneg _, (show (i : Int) < (l.length : Int) by omega), ?_⟩
    conv => whnf
    refine ex2 y hy2 ?_
    conv => whnf
    refine ⟨(y, x), rfl, ?_⟩
    rintro _ _ ⟨rfl, rfl⟩
    conv => whnf
    refine br2 (fun h6 => ?_) (fun h6 => ?_)
    · conv => whnf
      exact ⟨⟨rfl, .inr ⟨i, rfl, hi, g2, y, hy, h6⟩⟩⟩
    · replace h6 : txEq y.tx x = false := h6
      conv => whnf
      refine ⟨l.length - (i + 1), [(16, 16), (0, 0)], [(8, .lf (.int .i64 ((i + 1 : Nat) : Int))), (7, .lf (.int .i64 l.length)), (6, .sl 0 none), (1, .fn 151 [.pt 16 0 0]), (0, .sl 0 none)], [(16, some (.arr false 3 [x.vs])), (0, some (.row .lent 6 LockX.ds l))], by omega, ⟨rfl, ⟨?_, rfl, rfl, rfl, rfl, trivial⟩, by repeat' first | exact trivial | refine ⟨rfl, ?_⟩⟩, i + 1, by omega, fun j z h7 hz => ?_, by omega, rfl, rfl⟩
      · show V.lf (.int .i64 (IntKind.i64.wrap ((i : Int) + 1))) = _
        rw [w64 (by omega) (by omega)]; rfl
      · rcases Nat.lt_or_ge j i with h7 | h7
        · exact g2 j z h7 hz
        · obtain rfl : j = i := by omega
          rw [hy] at hz; cases hz; exact h6
  · have hi : i = l.length := by have := of_decide_eq_false h5; omega
    conv => whnf
    refine ⟨⟨rfl, .inl ⟨rfl, fun y hy => ?_⟩⟩⟩
    obtain ⟨j, hj⟩ := List.getElem?_of_mem hy
    have hj' := (List.getElem?_eq_some_iff.1 hj).1
    exact g2 j y (by rw [hi]; exact hj') hj
theorem idxF_ok : FnOk Try.prog 161 cIdxF := fnOk_of fun x => fnX_at tab_ok (SOk.cons pFree_ok SOk.nil) mixed (fn := Try.f161) (code := body Try.f161) ⟨Try.func161, rfl, by kernel_rfl, by kernel_rfl, by kernel_rfl, by kernel_rfl⟩ (ev_idxF x)
/-- The rows of two halves: what is kept stands in front, what is not yet seen behind. -/
structure Kept (p : LockX → Bool) (l l' : List LockX) (i j : Nat) : Prop where
  len : l'.length = l.length
  ij : i ≤ j
  jl : j ≤ l.length
  front : l'.take i = (l.take j).filter p
  back : l'.drop j = l.drop j
theorem Kept.at {p : LockX → Bool} {l l' : List LockX} {i j : Nat} (h : Kept p l l' i j) (hj : j < l.length) : ∃ y, l[j]? = some y ∧ l'[j]? = some y := by
  have e : l'[j]? = l[j]? := by
    have := congrArg (fun m => m[0]?) h.back
    simpa using this
  exact ⟨l[j], List.getElem?_eq_getElem hj, by rw [e]; exact List.getElem?_eq_getElem hj⟩
theorem Kept.skip {p : LockX → Bool} {l l' : List LockX} {i j : Nat} (h : Kept p l l' i j) {y : LockX} (hy : l[j]? = some y) (hp : p y = false) : Kept p l l' i (j + 1) := by
  have hj := (List.getElem?_eq_some_iff.1 hy).1
  refine ⟨h.len, by have := h.ij; omega, by omega, ?_, ?_⟩
  · rw [h.front, List.take_add_one, List.filter_append, hy]
    simp [hp]
  · have := congrArg (List.drop 1) h.back
    simpa [List.drop_drop] using this
theorem Kept.keep {p : LockX → Bool} {l l' : List LockX} {i j : Nat} (h : Kept p l l' i j) {y : LockX} (hy : l[j]? = some y) (hp : p y = true) : Kept p l (l'.set i y) (i + 1) (j + 1) := by
  have hj := (List.getElem?_eq_some_iff.1 hy).1
  have h1 := h.ij
  have h2 := h.len
  refine ⟨by simp [h.len], by omega, by omega, ?_, ?_⟩
  · rw [List.take_add_one, List.take_set_of_le (by omega), h.front, List.take_add_one, List.filter_append, hy]
    rw [List.getElem?_set_self (by omega)]
    simp [hp]
  · rw [List.drop_set_of_lt (by omega)]
    have := congrArg (List.drop 1) h.back
    simpa [List.drop_drop] using this
structure DelX where
  l : List LockX
  t : TxX
  hl : l.length ≤ 1048576
def DelX.out (x : DelX) : List LockX := x.l.filter fun y => !txEq y.tx x.t
def lockZ : LockX := ⟨⟨0, 0, 0⟩, ⟨⟨#[]⟩, ⟨#[]⟩⟩, false⟩
theorem ev_delF : ∀ x, evFnX tab [(161, cIdxF), (151, (pureC (LockX × TxX) [(.rd, true), (.rd, false)] [false] (fun x => [x.1.ds, [.box x.2.ds]]) (fun x => [[.lf (.bool (txEq x.1.tx x.2))]])))] (pureC DelX [(.take, false), (.rd, false)] [false] (fun x => [[.row 6 LockX.ds x.l], [freeD x.t]]) (fun x => [[.row 6 LockX.ds x.out]])) Try.f152 (body Try.f152) x := by
  rintro ⟨l, x, hl⟩
  conv => whnf
  refine ⟨(l, x), rfl, ?_⟩
  rintro _ _ ⟨rfl, h0⟩
  rcases h0 with ⟨rfl, h0⟩ | ⟨i0, rfl, h0, h1, y0, h2, h3⟩
  · conv => whnf
    refine ⟨⟨rfl, ?_⟩⟩
    show [[D.row 6 LockX.ds l]] = [[D.row 6 LockX.ds (l.filter fun y => !txEq y.tx x)]]
    rw [List.filter_eq_self.2 fun y hy => by rw [h0 y hy]; rfl]
  conv => whnf
  replace h0 : i0 < l.length := h0
  have hw : IntKind.i64.wrap ((i0 : Int) + 1) = ((i0 + 1 : Nat) : Int) := by rw [w64 (by omega) (by omega)]; rfl
  let p : LockX → Bool := fun y => !txEq y.tx x
  replace h1 : ∀ j y, j < i0 → l[j]? = some y → txEq y.tx x = false := h1
  replace h2 : l[i0]? = some y0 := h2
  replace h3 : txEq y0.tx x = true := h3
  have hK0 : Kept p l l i0 (i0 + 1) := by
    refine ⟨rfl, by omega, by omega, ?_, rfl⟩
    rw [List.take_add_one, List.filter_append, h2]
    have e1 : (l.take i0).filter p = l.take i0 := List.filter_eq_self.2 fun y hy => by
      obtain ⟨j, hj⟩ := List.getElem?_of_mem hy
      rw [List.getElem?_take] at hj
      split at hj
      · rename_i hlt
        show (!txEq y.tx x) = true
        rw [h1 j y hlt hj]; rfl
      · cases hj
    have e2 : p y0 = false := by show (!txEq y0.tx x) = false; rw [h3]; rfl
    rw [e1]; simp [e2]
  refine ⟨fun m s h => ∃ (i j : Nat) (l' : List LockX), Kept p l l' i j ∧ m = l.length - j ∧ s = [(6, .lf (.int .i64 j)), (5, .lf (.int .i64 i)), (1, .fn 151 [.pt 16 0 0]), (0, .sl 0 none)] ∧ h = [(16, some (.arr false 3 [x.vs])), (0, some (.row .own 6 LockX.ds l'))],
    l.length - (i0 + 1), [(16, 16), (0, 0)], [(6, .lf (.int .i64 ((i0 + 1 : Nat) : Int))), (5, .lf (.int .i64 i0)), (1, .fn 151 [.pt 16 0 0]), (0, .sl 0 none)], [(16, some (.arr false 3 [x.vs])), (0, some (.row .own 6 LockX.ds l))],
    ⟨rfl, ⟨by show V.lf (.int .i64 (IntKind.i64.wrap ((i0 : Int) + 1))) = _; rw [hw], rfl, rfl, rfl, trivial⟩, rfl, rfl, trivial⟩, ⟨i0, i0 + 1, l, hK0, rfl, rfl, rfl⟩, ?_⟩
  rintro m _ _ ⟨i, j, l', hK, rfl, rfl, rfl⟩
  conv => whnf
  intro h5
  conv => whnf
  refine br2 (fun h6 => ?_) (fun h6 => ?_)
  · have hj : j < l.length := by have := of_decide_eq_true h6; have := hK.len; omega
    obtain ⟨y, hy, hy'⟩ := hK.at hj
    have hy2 : nth l' ((j : Nat) : Int).toNat = some y := by rw [nth_eq, Int.toNat_natCast]; exact hy'
    conv => whnf
    refine ⟨Int.natCast_nonneg _, (show (j : Int) < (l'.length : Int) by have := hK.len; omega), ?_⟩
    conv => whnf
    refine ex2 y hy2 ?_
    conv => whnf
    refine ⟨(y, x), rfl, ?_⟩
    rintro _ _ ⟨rfl, rfl⟩
    conv => whnf
    refine br2 (fun h7 => ?_) (fun h7 => ?_)
    · have hp : p y = true := h7
      have hij := hK.ij
      have hlen := hK.len
      obtain ⟨z, hz⟩ : ∃ z, l'[i]? = some z := ⟨_, List.getElem?_eq_getElem (by omega)⟩
      have hz2 : nth l' ((i : Nat) : Int).toNat = some z := by rw [nth_eq, Int.toNat_natCast]; exact hz
      conv => whnf
      refine ⟨Int.natCast_nonneg _, (show (i : Int) < (l'.length : Int) by omega), ?_⟩
      conv => whnf
      refine ex2 z hz2 ?_
      conv => whnf
      refine ⟨y, rfl, ?_⟩
      conv => whnf
      refine ⟨l.length - (j + 1), [(16, 16), (0, 0)], [(6, .lf (.int .i64 ((j + 1 : Nat) : Int))), (5, .lf (.int .i64 ((i + 1 : Nat) : Int))), (1, .fn 151 [.pt 16 0 0]), (0, .sl 0 none)], [(16, some (.arr false 3 [x.vs])), (0, some (.row .own 6 LockX.ds (l'.set i y)))],
        by omega, ⟨rfl, ⟨?_, ?_, rfl, rfl, trivial⟩, rfl, rfl, trivial⟩, i + 1, j + 1, l'.set i y, hK.keep hy hp, rfl, rfl, rfl⟩
      · show V.lf (.int .i64 (IntKind.i64.wrap ((j : Int) + 1))) = _
        rw [w64 (by omega) (by omega)]; rfl
      · show V.lf (.int .i64 (IntKind.i64.wrap ((i : Int) + 1))) = _
        rw [w64 (by omega) (by omega)]; rfl
    · have hp : p y = false := h7
      conv => whnf
      refine ⟨l.length - (j + 1), [(16, 16), (0, 0)], [(6, .lf (.int .i64 ((j + 1 : Nat) : Int))), (5, .lf (.int .i64 i)), (1, .fn 151 [.pt 16 0 0]), (0, .sl 0 none)], [(16, some (.arr false 3 [x.vs])), (0, some (.row .own 6 LockX.ds l'))],
        by omega, ⟨rfl, ⟨?_, rfl, rfl, rfl, trivial⟩, rfl, rfl, trivial⟩, i, j + 1, l', hK.skip hy hp, rfl, rfl, rfl⟩
      show V.lf (.int .i64 (IntKind.i64.wrap ((j : Int) + 1))) = _
      rw [w64 (by omega) (by omega)]; rfl
  · have hj : j = l.length := by have := of_decide_eq_false h6; have := hK.len; have := hK.jl; omega
    subst hj
    have hij := hK.ij
    have hlen := hK.len
    conv => whnf
    refine ⟨Int.natCast_nonneg _, (show (i : Int) ≤ (l'.length : Int) by omega), Int.le_refl _, ?_⟩
    conv => whnf
    refine ⟨lockZ, rfl, ?_⟩
    conv => whnf
    refine ⟨Int.le_refl _, Int.natCast_nonneg _, ?_, ?_⟩
    · show (i : Int) ≤ ((l'.take i ++ List.replicate ((l'.length : Int) - (i : Int)).toNat lockZ ++ l'.drop (i + ((l'.length : Int) - (i : Int)).toNat)).length : Int)
      simp; omega
    conv => whnf
    refine ⟨⟨rfl, ?_⟩⟩
    show [[D.row 6 LockX.ds (((l'.take i ++ List.replicate ((l'.length : Int) - (i : Int)).toNat lockZ ++ l'.drop (i + ((l'.length : Int) - (i : Int)).toNat)).drop 0).take ((i : Int) - 0).toNat)]] = [[D.row 6 LockX.ds (l.filter p)]]
    congr 3
    have := hK.front
    rw [List.take_length] at this
    rw [← this, List.drop_zero, List.append_assoc, List.take_append_of_le_length (by simp; omega)]
    simp [List.take_take]
theorem delF_ok : FnOk Try.prog 152 (pureC DelX [(.take, false), (.rd, false)] [false] (fun x => [[.row 6 LockX.ds x.l], [freeD x.t]]) (fun x => [[.row 6 LockX.ds x.out]])) := fnOk_of fun x => fnX_at tab_ok (SOk.cons idxF_ok (SOk.cons pFree_ok SOk.nil)) mixed (fn := Try.f152) (code := body Try.f152) ⟨Try.func152, rfl, by kernel_rfl, by kernel_rfl, by kernel_rfl, by kernel_rfl⟩ (ev_delF x)

/-! What is freed -/
structure FrS where
  h : List LockX
  s : List LockX
  g : List LockX
def FrS.step (t : FrS) (y : LockX) : FrS := if anyB t.h y || anyB t.s y then ⟨t.h, t.s ++ [y], t.g⟩ else ⟨t.h ++ [y], t.s, t.g ++ [y]⟩
def frRun (h l : List LockX) : FrS := l.foldl FrS.step ⟨h, [], []⟩
theorem frRun_snoc (h l : List LockX) (y : LockX) : frRun h (l ++ [y]) = (frRun h l).step y := by simp [frRun]
theorem frRun_len (h l : List LockX) : (frRun h l).h.length + (frRun h l).s.length = h.length + l.length ∧ (frRun h l).g.length ≤ l.length := by
  have key : ∀ (l : List LockX) (t : FrS), (l.foldl FrS.step t).h.length + (l.foldl FrS.step t).s.length = t.h.length + t.s.length + l.length ∧ (l.foldl FrS.step t).g.length ≤ t.g.length + l.length := by
    intro l
    induction l with
    | nil => intro t; simp
    | cons y l ih =>
      intro t
      obtain ⟨h1, h2⟩ := ih (t.step y)
      simp only [List.foldl_cons, List.length_cons]
      unfold FrS.step at *
      split at h1 <;> rename_i e <;> simp only [e, if_true, if_false, Bool.false_eq_true] at * <;> simp only [List.length_append, List.length_cons, List.length_nil] at h1 h2 <;> omega
  have := key l ⟨h, [], []⟩
  simpa [frRun] using this
def notTx (t : TxX) (y : LockX) : Bool := !txEq y.tx t
def LocksX.fr (x : LocksX) (t : TxX) : FrS := frRun (x.held.filter (notTx t)) (x.wait.filter (notTx t))
theorem take_snoc {l : List LockX} {i : Nat} {y : LockX} (h : l[i]? = some y) : l.take (i + 1) = l.take i ++ [y] := by rw [List.take_add_one, h]; rfl
theorem filter_yes {p : LockX → Bool} {l : List LockX} {i : Nat} {y : LockX} (h : l[i]? = some y) (hp : p y = true) : (l.take (i + 1)).filter p = (l.take i).filter p ++ [y] := by rw [take_snoc h, List.filter_append]; simp [hp]
theorem filter_no {p : LockX → Bool} {l : List LockX} {i : Nat} {y : LockX} (h : l[i]? = some y) (hp : p y = false) : (l.take (i + 1)).filter p = (l.take i).filter p := by rw [take_snoc h, List.filter_append]; simp [hp]
theorem filter_le {p : LockX → Bool} {l : List LockX} {i : Nat} : ((l.take i).filter p).length ≤ l.length := Nat.le_trans (List.length_filter_le _ _) (by simp; omega)
structure FreeX where
  x : LocksX
  t : TxX
  h1 : x.held.length ≤ 1048576
  h2 : x.wait.length ≤ 1048576
structure FreeR (x : LocksX) (t : TxX) (y : LocksX) (g : List LockX) : Prop where
  yes : LocksOkP x → y = ⟨(x.fr t).h, (x.fr t).s⟩ ∧ g = (x.fr t).g
  no : ¬ LocksOkP x → y = ⟨[], []⟩ ∧ g = []
def cLockFree : Con := relC FreeX [(.rd, true), (.rd, true)] [true, false] (fun x => [x.x.ds, x.t.ds]) (fun x r => ∃ y g, r = [y.ds, [.row 6 LockX.ds g]] ∧ FreeR x.x x.t y g)
theorem ev_sLockFree : ∀ x, evFnX tab [(1000004, cGh), (1000011, cGh), (28, cLocksOk), (83, cAny)] cLockFree Try.f53 (body Try.f53) x := by
  rintro ⟨⟨l, m⟩, x, hl, hm⟩
  replace hl : l.length ≤ 1048576 := hl
  replace hm : m.length ≤ 1048576 := hm
  conv => whnf
  refine ⟨⟨l, m⟩, rfl, ?_⟩
  rintro _ _ ⟨rfl, b, rfl, e1⟩
  conv => whnf
  refine br2 (fun h1 => ?_) (fun h1 => ?_)
  · have hno : ¬ LocksOkP ⟨l, m⟩ := fun h => by have : b = true := e1.2 h; subst this; cases h1
    conv => whnf
    refine ⟨6, LockX, LockX.ds, fun _ => rfl, ?_⟩
    conv => whnf
    refine ⟨6, LockX, LockX.ds, fun _ => rfl, ?_⟩
    conv => whnf
    refine ⟨6, LockX, LockX.ds, fun _ => rfl, ?_⟩
    conv => whnf
    exact ⟨⟨rfl, ⟨[], []⟩, [], rfl, fun h => absurd h hno, fun _ => ⟨rfl, rfl⟩⟩⟩
  have hok : LocksOkP ⟨l, m⟩ := e1.1 (by simpa using h1)
  conv => whnf
  refine ⟨[.nlc 96 0 0 100, .nlc 96 0 1 101], ?_⟩
  conv => whnf
  refine ⟨6, LockX, LockX.ds, fun _ => rfl, ?_⟩
  conv => whnf
  refine ⟨6, LockX, LockX.ds, fun _ => rfl, ?_⟩
  conv => whnf
  intro _
  conv => whnf
  let p : LockX → Bool := notTx x
  let S0 : Sl := [(3, .pt 48 0 0), (2, .pt 32 0 0), (4, .pt 64 0 0), (6, .pt 96 0 0)]
  let H0 : Hp := [(96, some (.arr true 2 [[.sl 1600 none, .sl 1616 none]])), (64, some (.arr true 2 [[.lf (.slice none 0 0), .lf (.slice none 0 0)]])), (48, some (.arr true 3 [x.vs])), (32, some (.arr true 2 [[.sl 0 none, .sl 1 none]])), (1, some (.row .lent 6 LockX.ds m)), (0, some (.row .lent 6 LockX.ds l))]
  refine ⟨fun q s h => ∃ i : Nat, i ≤ l.length ∧ q = l.length - i ∧ s = (20, .lf (.int .i64 i)) :: (19, .lf (.int .i64 l.length)) :: (18, .sl 0 none) :: S0 ∧ h = (1600, some (.row .own 6 LockX.ds ((l.take i).filter p))) :: (1616, some (.row .own 6 LockX.ds [])) :: H0,
    l.length, [(1600, 1600), (1616, 1616), (96, 96), (64, 64), (48, 48), (32, 32), (1, 1), (0, 0)], (20, .lf (.int .i64 0)) :: (19, .lf (.int .i64 l.length)) :: (18, .sl 0 none) :: S0, (1600, some (.row .own 6 LockX.ds [])) :: (1616, some (.row .own 6 LockX.ds [])) :: H0,
    ⟨rfl, ⟨rfl, rfl, rfl, rfl, rfl, rfl, rfl, trivial⟩, rfl, rfl, rfl, rfl, rfl, rfl, rfl, rfl, trivial⟩, ⟨0, by omega, by omega, rfl, rfl⟩, ?_⟩
  rintro q _ _ ⟨i, g1, rfl, rfl, rfl⟩
  conv => whnf
  refine br2 (fun h5 => ?_) (fun h5 => ?_)
  · have hi : i < l.length := by have := of_decide_eq_true h5; omega
    obtain ⟨y, hy⟩ := getL hi
    have hlen := filter_le (p := p) (l := l) (i := i)
    conv => whnf
    refine ⟨Int.natCast_nonneg _, (show (i : Int) < (l.length : Int) by omega), ?_⟩
    conv => whnf
    refine ex2 y (nthI hy) ?_
    conv => whnf
    have hw : V.lf (.int .i64 (IntKind.i64.wrap ((i : Int) + 1))) = V.lf (.int .i64 ((i + 1 : Nat) : Int)) := by rw [w64 (by omega) (by omega)]; rfl
    refine br2 (fun h6 => ?_) (fun h6 => ?_)
    · have hp : p y = true := h6
      conv => whnf
      refine ⟨[y], rfl, ?_, ?_⟩
      · show ((l.take i).filter p).length + 1 ≤ 4294967296; omega
      conv => whnf
      refine ⟨l.length - (i + 1), [(512, 1600), (1616, 1616), (96, 96), (64, 64), (48, 48), (32, 32), (1, 1), (0, 0)], (20, .lf (.int .i64 ((i + 1 : Nat) : Int))) :: (19, .lf (.int .i64 l.length)) :: (18, .sl 0 none) :: S0, (1600, some (.row .own 6 LockX.ds ((l.take i).filter p ++ [y]))) :: (1616, some (.row .own 6 LockX.ds [])) :: H0,
        by omega, ⟨rfl, ⟨hw, rfl, rfl, rfl, rfl, rfl, rfl, trivial⟩, rfl, rfl, rfl, rfl, rfl, rfl, rfl, rfl, trivial⟩, i + 1, by omega, rfl, rfl, ?_⟩
      rw [filter_yes hy hp]
    · have hp : p y = false := h6
      conv => whnf
      refine ⟨l.length - (i + 1), [(1600, 1600), (1616, 1616), (96, 96), (64, 64), (48, 48), (32, 32), (1, 1), (0, 0)], (20, .lf (.int .i64 ((i + 1 : Nat) : Int))) :: (19, .lf (.int .i64 l.length)) :: (18, .sl 0 none) :: S0, (1600, some (.row .own 6 LockX.ds ((l.take i).filter p))) :: (1616, some (.row .own 6 LockX.ds [])) :: H0,
        by omega, ⟨rfl, ⟨hw, rfl, rfl, rfl, rfl, rfl, rfl, trivial⟩, rfl, rfl, rfl, rfl, rfl, rfl, rfl, rfl, trivial⟩, i + 1, by omega, rfl, rfl, ?_⟩
      rw [filter_no hy hp]
  have hi : i = l.length := by have := of_decide_eq_false h5; omega
  subst hi
  rw [List.take_length]
  conv => whnf
  refine ⟨[.row 560], ?_⟩
  conv => whnf
  refine ⟨LockX, LockX.ds, [], fun _ => rfl, rfl, ?_⟩
  conv => whnf
  intro _
  conv => whnf
  let hd : List LockX := l.filter p
  have hhd : hd.length ≤ l.length := List.length_filter_le _ _
  refine ⟨fun q s h => ∃ i : Nat, i ≤ m.length ∧ q = m.length - i ∧ s = (39, .lf (.int .i64 i)) :: (38, .lf (.int .i64 m.length)) :: (37, .sl 1 none) :: (9, .sl 1632 none) :: S0 ∧ h = (1632, some (.row .own 6 LockX.ds (frRun hd ((m.take i).filter p)).g)) :: (1600, some (.row .own 6 LockX.ds (frRun hd ((m.take i).filter p)).h)) :: (1616, some (.row .own 6 LockX.ds (frRun hd ((m.take i).filter p)).s)) :: H0,
    m.length, [(560, 1632), (1600, 1600), (1616, 1616), (96, 96), (64, 64), (48, 48), (32, 32), (1, 1), (0, 0)], (39, .lf (.int .i64 0)) :: (38, .lf (.int .i64 m.length)) :: (37, .sl 1 none) :: (9, .sl 1632 none) :: S0, (1632, some (.row .own 6 LockX.ds [])) :: (1600, some (.row .own 6 LockX.ds hd)) :: (1616, some (.row .own 6 LockX.ds [])) :: H0,
    ⟨rfl, ⟨rfl, rfl, rfl, rfl, rfl, rfl, rfl, rfl, trivial⟩, rfl, rfl, rfl, rfl, rfl, rfl, rfl, rfl, rfl, trivial⟩, ⟨0, by omega, by omega, rfl, rfl⟩, ?_⟩
  rintro q _ _ ⟨i, g1, rfl, rfl, rfl⟩
  conv => whnf
  refine br2 (fun h5 => ?_) (fun h5 => ?_)
  · have hi : i < m.length := by have := of_decide_eq_true h5; omega
    obtain ⟨y, hy⟩ := getL hi
    conv => whnf
    refine ⟨Int.natCast_nonneg _, (show (i : Int) < (m.length : Int) by omega), ?_⟩
    conv => whnf
    refine ex2 y (nthI hy) ?_
    conv => whnf
    have hw : V.lf (.int .i64 (IntKind.i64.wrap ((i : Int) + 1))) = V.lf (.int .i64 ((i + 1 : Nat) : Int)) := by rw [w64 (by omega) (by omega)]; rfl
    refine br2 (fun h6 => ?_) (fun h6 => ?_)
    · have hp : p y = false := by show (!txEq y.tx x) = false; rw [show txEq y.tx x = true from h6]; rfl
      have he := filter_no hy hp
      conv => whnf
      refine ⟨m.length - (i + 1), [(1632, 1632), (1600, 1600), (1616, 1616), (96, 96), (64, 64), (48, 48), (32, 32), (1, 1), (0, 0)], (39, .lf (.int .i64 ((i + 1 : Nat) : Int))) :: (38, .lf (.int .i64 m.length)) :: (37, .sl 1 none) :: (9, .sl 1632 none) :: S0, (1632, some (.row .own 6 LockX.ds (frRun hd ((m.take i).filter p)).g)) :: (1600, some (.row .own 6 LockX.ds (frRun hd ((m.take i).filter p)).h)) :: (1616, some (.row .own 6 LockX.ds (frRun hd ((m.take i).filter p)).s)) :: H0,
        by omega, ⟨rfl, ⟨hw, rfl, rfl, rfl, rfl, rfl, rfl, rfl, trivial⟩, rfl, rfl, rfl, rfl, rfl, rfl, rfl, rfl, rfl, trivial⟩, i + 1, by omega, rfl, rfl, ?_⟩
      rw [he]
    have hp : p y = true := by show (!txEq y.tx x) = true; rw [show txEq y.tx x = false from h6]; rfl
    have he := filter_yes hy hp
    obtain ⟨hn1, hn2⟩ := frRun_len hd ((m.take i).filter p)
    have hn3 := filter_le (p := p) (l := m) (i := i)
    generalize hr : frRun hd ((m.take i).filter p) = r at *
    have hs : frRun hd ((m.take (i + 1)).filter p) = r.step y := by rw [he, frRun_snoc, hr]
    have fin1 : (anyB r.h y || anyB r.s y) = true → r.step y = ⟨r.h, r.s ++ [y], r.g⟩ := fun h => by unfold FrS.step; rw [if_pos h]
    have fin2 : (anyB r.h y || anyB r.s y) = false → r.step y = ⟨r.h ++ [y], r.s, r.g ++ [y]⟩ := fun h => by unfold FrS.step; rw [if_neg (by rw [h]; simp)]
    have fin : ∀ {s : Sl} {h : Hp} (Ha Wa Ga : Nat) (r' : FrS), r.step y = r' →
        (∃ ρ, Le ρ ((39, .lf (.int .i64 ((i + 1 : Nat) : Int))) :: (38, .lf (.int .i64 m.length)) :: (37, .sl 1 none) :: (9, .sl 1632 none) :: S0) ((1632, some (.row .own 6 LockX.ds r'.g)) :: (1600, some (.row .own 6 LockX.ds r'.h)) :: (1616, some (.row .own 6 LockX.ds r'.s)) :: H0) s h) →
        ∃ m' ρ s'' h'', m' < m.length - i ∧ Le ρ s'' h'' s h ∧ ∃ i : Nat, i ≤ m.length ∧ m' = m.length - i ∧ s'' = (39, .lf (.int .i64 i)) :: (38, .lf (.int .i64 m.length)) :: (37, .sl 1 none) :: (9, .sl 1632 none) :: S0 ∧ h'' = (1632, some (.row .own 6 LockX.ds (frRun hd ((m.take i).filter p)).g)) :: (1600, some (.row .own 6 LockX.ds (frRun hd ((m.take i).filter p)).h)) :: (1616, some (.row .own 6 LockX.ds (frRun hd ((m.take i).filter p)).s)) :: H0 := by
      rintro s h _ _ _ r' e ⟨ρ, hle⟩
      refine ⟨m.length - (i + 1), ρ, _, _, by omega, hle, i + 1, by omega, rfl, rfl, ?_⟩
      rw [hs, e]
    conv => whnf
    refine ⟨(r.h, y), rfl, ?_⟩
    rintro _ _ ⟨rfl, rfl⟩
    conv => whnf
    refine br2 (fun h7 => ?_) (fun h7 => ?_)
    · have h7' : anyB r.h y = true := h7
      have e3 := fin1 (by rw [h7']; rfl)
      conv => whnf
      refine ⟨[y], rfl, ?_, ?_⟩
      · show r.s.length + 1 ≤ 4294967296; omega
      conv => whnf
      exact fin 0 0 0 _ e3 ⟨[(1632, 1632), (1600, 1600), (976, 1616), (96, 96), (64, 64), (48, 48), (32, 32), (1, 1), (0, 0)], rfl, ⟨hw, rfl, rfl, rfl, rfl, rfl, rfl, rfl, trivial⟩, rfl, rfl, rfl, rfl, rfl, rfl, rfl, rfl, rfl, trivial⟩
    have h7' : anyB r.h y = false := h7
    conv => whnf
    refine ⟨(r.s, y), rfl, ?_⟩
    rintro _ _ ⟨rfl, rfl⟩
    conv => whnf
    refine br2 (fun h8 => ?_) (fun h8 => ?_)
    · have h8' : anyB r.s y = true := h8
      have e3 := fin1 (by rw [h7', h8']; rfl)
      conv => whnf
      refine ⟨[y], rfl, ?_, ?_⟩
      · show r.s.length + 1 ≤ 4294967296; omega
      conv => whnf
      exact fin 0 0 0 _ e3 ⟨[(1632, 1632), (1600, 1600), (976, 1616), (96, 96), (64, 64), (48, 48), (32, 32), (1, 1), (0, 0)], rfl, ⟨hw, rfl, rfl, rfl, rfl, rfl, rfl, rfl, trivial⟩, rfl, rfl, rfl, rfl, rfl, rfl, rfl, rfl, rfl, trivial⟩
    · have h8' : anyB r.s y = false := h8
      have e3 := fin2 (by rw [h7', h8']; rfl)
      conv => whnf
      refine ⟨[y], rfl, ?_, ?_⟩
      · show r.h.length + 1 ≤ 4294967296; omega
      conv => whnf
      refine ⟨[y], rfl, ?_, ?_⟩
      · show r.g.length + 1 ≤ 4294967296; omega
      conv => whnf
      exact fin 0 0 0 _ e3 ⟨[(1152, 1632), (1072, 1600), (1616, 1616), (96, 96), (64, 64), (48, 48), (32, 32), (1, 1), (0, 0)], rfl, ⟨hw, rfl, rfl, rfl, rfl, rfl, rfl, rfl, trivial⟩, rfl, rfl, rfl, rfl, rfl, rfl, rfl, rfl, rfl, trivial⟩
  have hi : i = m.length := by have := of_decide_eq_false h5; omega
  subst hi
  rw [List.take_length]
  conv => whnf
  refine ⟨⟨rfl, ⟨(frRun hd (m.filter p)).h, (frRun hd (m.filter p)).s⟩, (frRun hd (m.filter p)).g, rfl, fun _ => ⟨rfl, rfl⟩, fun h => absurd hok h⟩⟩
theorem sLockFree_ok : FnOk Try.prog 53 cLockFree := fnOk_of fun x => fnX_at tab_ok (SOk.cons gh_ok (SOk.cons gh_ok (SOk.cons sLocksOk_ok (SOk.cons sAny_ok SOk.nil)))) mixed (fn := Try.f53) (code := body Try.f53) ⟨Try.func53, rfl, by kernel_rfl, by kernel_rfl, by kernel_rfl, by kernel_rfl⟩ (ev_sLockFree x)
def locksD (x : LocksX) : D := .box x.ds
theorem ev_copyLocks : ∀ x, evFnX tab [] (pureC FreeX [(.rd, true)] [true] (fun x => [x.x.ds]) (fun x => [x.x.ds])) Try.f114 (body Try.f114) x := by
  rintro ⟨⟨l, m⟩, x, hl, hm⟩
  replace hl : l.length ≤ 1048576 := hl
  replace hm : m.length ≤ 1048576 := hm
  conv => whnf
  refine ⟨fun _ => rfl, ?_⟩
  conv => whnf
  refine ⟨LockX, LockX.ds, l, fun _ => rfl, rfl, (show l.length ≤ 4294967296 by omega), ?_⟩
  conv => whnf
  repeat (refine rc_i rfl ?_; conv => whnf)
  refine ⟨fun _ => rfl, ?_⟩
  conv => whnf
  refine ⟨LockX, LockX.ds, m, fun _ => rfl, rfl, (show m.length ≤ 4294967296 by omega), ?_⟩
  conv => whnf
  repeat (refine rc_i rfl ?_; conv => whnf)
  exact ⟨⟨rfl, rfl⟩⟩
theorem copyLocks_ok : FnOk Try.prog 114 (pureC FreeX [(.rd, true)] [true] (fun x => [x.x.ds]) (fun x => [x.x.ds])) := fnOk_of fun x => fnX_at tab_ok (SOk.nil) mixed (fn := Try.f114) (code := body Try.f114) ⟨Try.func114, rfl, by kernel_rfl, by kernel_rfl, by kernel_rfl, by kernel_rfl⟩ (ev_copyLocks x)
def cIFree : Con := { X := FreeX, params := [(.mut, false), (.rd, true)], res := [false], resOwn := true, ins := fun x => [[locksD x.x], x.t.ds], post := fun x outs r => outs = [[locksD ⟨(x.x.fr x.t).h, (x.x.fr x.t).s⟩]] ∧ r = [[.row 6 LockX.ds (x.x.fr x.t).g]] }
theorem ev_iFree : ∀ x, evFnX tab [(1000004, cGh), (152, (pureC DelX [(.take, false), (.rd, false)] [false] (fun x => [[.row 6 LockX.ds x.l], [freeD x.t]]) (fun x => [[.row 6 LockX.ds x.out]]))), (87, (pureC (LockX × List (List LockX)) [(.rd, true), (.rd, false)] [false] (fun x => [x.1.ds, [.row 1 lsEnc x.2]]) (fun x => [[.lf (.bool (freeB x.1 x.2))]]))), (151, (pureC (LockX × TxX) [(.rd, true), (.rd, false)] [false] (fun x => [x.1.ds, [.box x.2.ds]]) (fun x => [[.lf (.bool (txEq x.1.tx x.2))]])))] cIFree Try.f115 (body Try.f115) x := by
  rintro ⟨⟨l, m⟩, x, hl, hm⟩
  replace hl : l.length ≤ 1048576 := hl
  replace hm : m.length ≤ 1048576 := hm
  conv => whnf
  refine ⟨⟨l, x, hl⟩, rfl, ?_⟩
  rintro _ _ ⟨rfl, rfl⟩
  conv => whnf
  refine ⟨[.row 320, .row 336], ?_⟩
  conv => whnf
  refine ⟨LockX, LockX.ds, [], fun _ => rfl, rfl, ?_⟩
  conv => whnf
  refine ⟨LockX, LockX.ds, [], fun _ => rfl, rfl, ?_⟩
  conv => whnf
  refine ⟨⟨m, x, hm⟩, rfl, ?_⟩
  rintro _ _ ⟨rfl, rfl⟩
  conv => whnf
  intro hb
  conv => whnf
  let p : LockX → Bool := notTx x
  let hd : List LockX := l.filter p
  let w : List LockX := m.filter p
  have hhd : hd.length ≤ l.length := List.length_filter_le _ _
  have hwd : w.length ≤ m.length := List.length_filter_le _ _
  refine ⟨fun q s h => ∃ i : Nat, i ≤ w.length ∧ q = w.length - i ∧ s = [(29, .lf (.int .i64 i)), (28, .lf (.int .i64 w.length)), (27, .sl 1648 none), (7, .sl 1616 none), (6, .sl 1632 none), (1000000, .pt 0 0 0), (0, .pt 0 0 0)] ∧
      h = [(1648, some (.row .own 6 LockX.ds w)), (1616, some (.row .own 6 LockX.ds (frRun hd (w.take i)).s)), (1632, some (.row .own 6 LockX.ds (frRun hd (w.take i)).g)), (1600, some (.row .own 6 LockX.ds (frRun hd (w.take i)).h)), (0, some (.arr true 2 [[.sl 1600 none, .dead]]))],
    w.length, [(272, 1600), (336, 1616), (320, 1632), (432, 1648), (0, 0)], [(29, .lf (.int .i64 0)), (28, .lf (.int .i64 w.length)), (27, .sl 1648 none), (7, .sl 1616 none), (6, .sl 1632 none), (1000000, .pt 0 0 0), (0, .pt 0 0 0)],
    [(1648, some (.row .own 6 LockX.ds w)), (1616, some (.row .own 6 LockX.ds [])), (1632, some (.row .own 6 LockX.ds [])), (1600, some (.row .own 6 LockX.ds hd)), (0, some (.arr true 2 [[.sl 1600 none, .dead]]))],
    ⟨rfl, ⟨rfl, rfl, rfl, rfl, rfl, rfl, rfl, trivial⟩, rfl, rfl, rfl, rfl, rfl, trivial⟩, ⟨0, by omega, by omega, rfl, rfl⟩, ?_⟩
  rintro q _ _ ⟨i, g1, rfl, rfl, rfl⟩
  conv => whnf
  refine br2 (fun h5 => ?_) (fun h5 => ?_)
  · have hi : i < w.length := by have := of_decide_eq_true h5; omega
    obtain ⟨y, hy⟩ := getL hi
    have hs : frRun hd (w.take (i + 1)) = (frRun hd (w.take i)).step y := by rw [take_snoc hy, frRun_snoc]
    obtain ⟨hn1, hn2⟩ := frRun_len hd (w.take i)
    have hn3 : (w.take i).length ≤ w.length := by simp; omega
    generalize hr : frRun hd (w.take i) = r at *
    have hw : V.lf (.int .i64 (IntKind.i64.wrap ((i : Int) + 1))) = V.lf (.int .i64 ((i + 1 : Nat) : Int)) := by rw [w64 (by omega) (by omega)]; rfl
    have hfree : freeB y [r.h, r.s] = !(anyB r.h y || anyB r.s y) := by
      simp only [freeB, anyB, List.all_cons, List.all_nil, Bool.and_true, Bool.not_or]
    conv => whnf
    refine ⟨Int.natCast_nonneg _, (show (i : Int) < (w.length : Int) by omega), ?_⟩
    conv => whnf
    refine ex2 y (nthI hy) ?_
    conv => whnf
    repeat (refine rc_i rfl ?_; conv => whnf)
    refine ⟨List LockX, lsEnc, [r.h, r.s], fun _ => rfl, rfl, ?_⟩
    conv => whnf
    refine ⟨(y, [r.h, r.s]), rfl, ?_⟩
    rintro _ _ ⟨rfl, rfl⟩
    conv => whnf
    repeat (refine rc_i rfl ?_; conv => whnf)
    refine br2 (fun h6 => ?_) (fun h6 => ?_)
    · have h6' : freeB y [r.h, r.s] = true := h6
      rw [hfree] at h6'
      have e3 : r.step y = ⟨r.h ++ [y], r.s, r.g ++ [y]⟩ := by unfold FrS.step; rw [if_neg (by simpa using h6')]
      conv => whnf
      repeat (refine rc_i rfl ?_; conv => whnf)
      refine ⟨[y], rfl, ?_, ?_⟩
      · show r.h.length + 1 ≤ 4294967296; omega
      conv => whnf
      repeat (refine rc_i rfl ?_; conv => whnf)
      refine ⟨[y], rfl, ?_, ?_⟩
      · show r.g.length + 1 ≤ 4294967296; omega
      conv => whnf
      refine ⟨w.length - (i + 1), [(768, 1600), (1616, 1616), (864, 1632), (1648, 1648), (0, 0)], _, _, by omega, ?_, i + 1, by omega, rfl, rfl, rfl⟩
      rw [hs, e3]
      exact ⟨rfl, ⟨hw, rfl, rfl, rfl, rfl, rfl, rfl, trivial⟩, rfl, rfl, rfl, rfl, rfl, trivial⟩
    · have h6' : freeB y [r.h, r.s] = false := h6
      rw [hfree] at h6'
      have e3 : r.step y = ⟨r.h, r.s ++ [y], r.g⟩ := by unfold FrS.step; rw [if_pos (by cases h7 : anyB r.h y <;> simp_all)]
      conv => whnf
      refine ⟨[y], rfl, ?_, ?_⟩
      · show r.s.length + 1 ≤ 4294967296; omega
      conv => whnf
      refine ⟨w.length - (i + 1), [(1600, 1600), (928, 1616), (1632, 1632), (1648, 1648), (0, 0)], _, _, by omega, ?_, i + 1, by omega, rfl, rfl, rfl⟩
      rw [hs, e3]
      exact ⟨rfl, ⟨hw, rfl, rfl, rfl, rfl, rfl, rfl, trivial⟩, rfl, rfl, rfl, rfl, rfl, trivial⟩
  have hi : i = w.length := by have := of_decide_eq_false h5; omega
  subst hi
  rw [List.take_length]
  conv => whnf
  exact ⟨⟨rfl, rfl⟩⟩
theorem iFree_ok : FnOk Try.prog 115 cIFree := fnOk_of fun x => fnX_at tab_ok (SOk.cons gh_ok (SOk.cons delF_ok (SOk.cons isFree_ok (SOk.cons pFree_ok SOk.nil)))) mixed (fn := Try.f115) (code := body Try.f115) ⟨Try.func115, rfl, by kernel_rfl, by kernel_rfl, by kernel_rfl, by kernel_rfl⟩ (ev_iFree x)
theorem ev_iLockFree : ∀ x, evFnX tab [(30, cLocksOk), (114, (pureC FreeX [(.rd, true)] [true] (fun x => [x.x.ds]) (fun x => [x.x.ds]))), (115, cIFree)] cLockFree Try.f54 (body Try.f54) x := by
  rintro ⟨⟨l, m⟩, x, hl, hm⟩
  conv => whnf
  refine ⟨⟨l, m⟩, rfl, ?_⟩
  rintro _ _ ⟨rfl, b, rfl, e1⟩
  conv => whnf
  refine br2 (fun h1 => ?_) (fun h1 => ?_)
  · have hno : ¬ LocksOkP ⟨l, m⟩ := fun h => by have : b = true := e1.2 h; subst this; cases h1
    conv => whnf
    refine ⟨6, LockX, LockX.ds, fun _ => rfl, ?_⟩
    conv => whnf
    refine ⟨6, LockX, LockX.ds, fun _ => rfl, ?_⟩
    conv => whnf
    refine ⟨6, LockX, LockX.ds, fun _ => rfl, ?_⟩
    conv => whnf
    exact ⟨⟨rfl, ⟨[], []⟩, [], rfl, fun h => absurd h hno, fun _ => ⟨rfl, rfl⟩⟩⟩
  have hok : LocksOkP ⟨l, m⟩ := e1.1 (by simpa using h1)
  conv => whnf
  refine ⟨⟨⟨l, m⟩, x, hl, hm⟩, rfl, ?_⟩
  rintro _ _ ⟨rfl, rfl⟩
  conv => whnf
  refine ⟨⟨⟨l, m⟩, x, hl, hm⟩, rfl, ?_⟩
  rintro _ _ ⟨rfl, rfl⟩
  conv => whnf
  exact ⟨⟨rfl, _, _, rfl, fun _ => ⟨rfl, rfl⟩, fun h => absurd hok h⟩⟩
theorem iLockFree_ok : FnOk Try.prog 54 cLockFree := fnOk_of fun x => fnX_at tab_ok (SOk.cons iLocksOk_ok (SOk.cons copyLocks_ok (SOk.cons iFree_ok SOk.nil))) mixed (fn := Try.f54) (code := body Try.f54) ⟨Try.func54, rfl, by kernel_rfl, by kernel_rfl, by kernel_rfl, by kernel_rfl⟩ (ev_iLockFree x)
end Go.Vm
namespace Go.Vm
open Go.Proofs
set_option maxRecDepth 100000
set_option linter.unusedVariables false
set_option linter.unusedSimpArgs false

/-- A number's digits. -/
def mkL (n : Nat) : List UInt8 := if h : n = 0 then [] else mkL (n / 10) ++ [UInt8.ofNat (48 + n % 10)]
theorem mkL_zero : mkL 0 = [] := by rw [mkL]; simp
theorem mkL_pos {n : Nat} (h : n ≠ 0) : mkL n = mkL (n / 10) ++ [UInt8.ofNat (48 + n % 10)] := by rw [mkL, dif_neg h]
theorem mkL_len {n k : Nat} (h : n < 10 ^ k) : (mkL n).length ≤ k := by
  induction k generalizing n with
  | zero => obtain rfl : n = 0 := by simpa using h
            rw [mkL_zero]; simp
  | succ k ih =>
    by_cases h0 : n = 0
    · subst h0; rw [mkL_zero]; simp
    · rw [mkL_pos h0]
      have := ih (n := n / 10) (by rw [Nat.pow_succ] at h; exact Nat.div_lt_of_lt_mul (by omega))
      simp; omega
/-- The text of a mark. -/
def mkT (n : Int) : ByteArray := if n ≤ 0 then ⟨#[109, 48]⟩ else ofB (109 :: mkL n.toNat)
structure MkX where
  n : Int
  h1 : -9223372036854775808 ≤ n
  h2 : n ≤ 9223372036854775807
theorem ev_markText : ∀ x, evFnX tab [] (pureC MkX [(.rd, false)] [false] (fun x => [[.lf (.int .i64 x.n)]]) (fun x => [[.lf (.string (mkT x.n))]])) Try.f117 (body Try.f117) x := by
  rintro ⟨n, h1, h2⟩
  conv => whnf
  refine br2 (fun h3 => ?_) (fun h3 => ?_)
  · have h3' : n ≤ 0 := of_decide_eq_true h3
    conv => whnf
    refine ⟨⟨rfl, ?_⟩⟩
    show _ = [[D.lf (.string (mkT n))]]
    rw [mkT, if_pos h3']
  have h3' : ¬ n ≤ 0 := of_decide_eq_false h3
  obtain ⟨k, rfl⟩ : ∃ k : Nat, n = k := ⟨n.toNat, by omega⟩
  conv => whnf
  refine ⟨fun m s h => ∃ (j : Nat) (t : ByteArray), mkL k = mkL j ++ bs t ∧ j ≤ k ∧ m = j ∧ s = [(0, .lf (.int .i64 j)), (3, .lf (.string t))] ∧ h = [],
    k, [], [(0, .lf (.int .i64 k)), (3, .lf (.string ⟨#[]⟩))], [], ⟨rfl, ⟨rfl, rfl, trivial⟩, trivial⟩, ⟨k, ⟨#[]⟩, by simp [bs], Nat.le_refl _, rfl, rfl, rfl⟩, ?_⟩
  rintro m _ _ ⟨j, t, g1, g2, rfl, rfl, rfl⟩
  have hlen := congrArg List.length g1
  have hle : (mkL k).length ≤ 19 := mkL_len (by omega)
  rw [List.length_append, bs_len] at hlen
  conv => whnf
  refine br2 (fun h4 => ?_) (fun h4 => ?_)
  · have h4' : m ≠ 0 := by have := of_decide_eq_true h4; omega
    have e1 : IntKind.u8.wrap (IntKind.i64.wrap (48 + (m : Int).tmod 10)) = ((UInt8.ofNat (48 + m % 10)).toNat : Int) := u8_of (k := 48 + m % 10) (by rw [tmod10, w64 (by omega) (by omega)]; omega) (by omega)
    conv => whnf
    refine ⟨[UInt8.ofNat (48 + m % 10)], by
      show [[D.lf (.int .u8 (IntKind.u8.wrap (IntKind.i64.wrap (48 + (m : Int).tmod 10))))]] = _
      rw [e1]; rfl, ?_⟩
    conv => whnf
    refine ⟨?_, ?_⟩
    · show (ByteArray.mk [UInt8.ofNat (48 + m % 10)].toArray).size + t.size ≤ 4294967296
      show 1 + t.size ≤ 4294967296
      omega
    conv => whnf
    rw [mkL_pos h4'] at g1
    refine ⟨m / 10, [], [(0, .lf (.int .i64 (m / 10 : Nat))), (3, .lf (.string (⟨[UInt8.ofNat (48 + m % 10)].toArray⟩ ++ t)))], [], by omega, ⟨rfl, ⟨?_, rfl, trivial⟩, trivial⟩, m / 10, _, ?_, by omega, rfl, rfl, rfl⟩
    · show V.lf (.int .i64 (IntKind.i64.wrap ((m : Int).tdiv 10))) = _
      rw [tdiv10, w64 (by omega) (by omega)]
    · rw [g1]; simp [bs]
  · have h4' : m = 0 := by have := of_decide_eq_false h4; omega
    subst h4'
    rw [mkL_zero, List.nil_append] at g1
    conv => whnf
    refine ⟨?_, ?_⟩
    · show 1 + t.size ≤ 4294967296
      omega
    conv => whnf
    refine ⟨⟨rfl, ?_⟩⟩
    show [[D.lf (.string (⟨#[109]⟩ ++ t))]] = [[D.lf (.string (mkT (k : Int)))]]
    rw [mkT, if_neg h3', Int.toNat_natCast, g1]
    congr 4
theorem markText_ok : FnOk Try.prog 117 (pureC MkX [(.rd, false)] [false] (fun x => [[.lf (.int .i64 x.n)]]) (fun x => [[.lf (.string (mkT x.n))]])) := fnOk_of fun x => fnX_at tab_ok (SOk.nil) mixed (fn := Try.f117) (code := body Try.f117) ⟨Try.func117, rfl, by kernel_rfl, by kernel_rfl, by kernel_rfl, by kernel_rfl⟩ (ev_markText x)

/-! Locks -/
def lockAt (k : Int) : LockX := ⟨⟨k, k + 1, k + 2⟩, ⟨mkT (k + 3), mkT (k + 4)⟩, (k + 5).tmod 3 == 0⟩
def markL (k : Int) (n : Nat) : List LockX := (List.range n).map fun i : Nat => lockAt (k + 6 * (i : Int))
theorem markL_len (k : Int) (n : Nat) : (markL k n).length = n := by simp [markL]
theorem markL_get {k : Int} {n i : Nat} (h : i < n) : (markL k n)[i]? = some (lockAt (k + 6 * (i : Int))) := by simp [markL, h]
theorem eq_markL {l : List LockX} {k : Int} {n : Nat} (h : l.length = n) (h2 : ∀ j, j < n → l[j]? = some (lockAt (k + 6 * (j : Int)))) : l = markL k n := by
  apply List.ext_getElem?
  intro j
  by_cases hj : j < n
  · rw [h2 j hj, markL_get hj]
  · rw [List.getElem?_eq_none (by omega), List.getElem?_eq_none (by rw [markL_len]; omega)]
structure MarkX (α : Type) where
  x : α
  k : Int
  h1 : 0 ≤ k
  h2 : k ≤ 1099511627776
/-- What marks leave behind: the outs, the next number. -/
def cMarkS {X : Type} (sz : Nat) (ds : X → List D) (mark : Int → Nat → List X) (w : Int) : Con :=
  { X := { x : MarkX (List X) // x.x.length ≤ 1048576 }, params := [(.mut, false), (.rd, false)], res := [false], resOwn := true, ins := fun x => [[.row sz ds x.1.x], [.lf (.int .i64 x.1.k)]],
    post := fun x outs r => outs = [[.row sz ds (mark x.1.k x.1.x.length)]] ∧ r = [[.lf (.int .i64 (x.1.k + w * x.1.x.length))]] }
def cHeldS {X : Type} (sz : Nat) (ds : X → List D) (mark : Int → Nat → List X) (w : Int) : Con :=
  { X := { x : MarkX Nat // x.x ≤ 1048576 }, params := [(.rd, false), (.rd, false)], res := [false], resOwn := true, ins := fun x => [[.row sz ds (mark x.1.k x.1.x)], [.lf (.int .i64 x.1.k)]],
    post := fun x outs r => outs = [] ∧ r = [[.lf (.int .i64 (x.1.k + w * x.1.x))]] }
theorem nth_setI {β : Type} {l : List β} {j : Nat} {y : β} (h : j < l.length) : nth (l.set j y) ((j : Nat) : Int).toNat = some y := by
  rw [nth_eq, Int.toNat_natCast, List.getElem?_set_self h]
theorem ev_markLockS : ∀ x, evFnX tab [(117, (pureC MkX [(.rd, false)] [false] (fun x => [[.lf (.int .i64 x.n)]]) (fun x => [[.lf (.string (mkT x.n))]])))] (cMarkS 6 LockX.ds markL 6) Try.f57 (body Try.f57) x := by
  rintro ⟨⟨l, k, h1, h2⟩, hl⟩
  replace hl : l.length ≤ 1048576 := hl
  conv => whnf
  refine ⟨fun m s h => ∃ (i : Nat) (l' : List LockX), i ≤ l.length ∧ l'.length = l.length ∧ (∀ j, j < i → l'[j]? = some (lockAt (k + 6 * (j : Int)))) ∧ m = l.length - i ∧ s = [(0, .sl 0 none), (1, .lf (.int .i64 (k + 6 * (i : Int)))), (5, .lf (.int .i64 i)), (1000000, .sl 0 none)] ∧ h = [(0, some (.row .own 6 LockX.ds l'))],
    l.length, [(0, 0)], [(0, .sl 0 none), (1, .lf (.int .i64 k)), (5, .lf (.int .i64 0)), (1000000, .sl 0 none)], [(0, some (.row .own 6 LockX.ds l))], ⟨rfl, ⟨rfl, rfl, rfl, rfl, trivial⟩, rfl, trivial⟩, ⟨0, l, by omega, rfl, fun j h => by omega, by omega, by simp, rfl⟩, ?_⟩
  rintro m _ _ ⟨i, l', g1, g2, g3, rfl, rfl, rfl⟩
  conv => whnf
  intro _
  conv => whnf
  refine br2 (fun h5 => ?_) (fun h5 => ?_)
  · have hi : i < l.length := by have := of_decide_eq_true h5; omega
    obtain ⟨y, hy⟩ := getL (l := l') (j := i) (by omega)
    conv => whnf
    refine ⟨Int.natCast_nonneg _, (show (i : Int) < (l'.length : Int) by omega), ?_⟩
    conv => whnf
    refine ex2 y (nthI hy) ?_
    conv => whnf
    have hk0 : 0 ≤ k + 6 * (i : Int) ∧ k + 6 * (i : Int) ≤ 1099518000000 := by omega
    have hk1 : k + 6 * ((i + 1 : Nat) : Int) = k + 6 * (i : Int) + 6 := by omega
    have g3' : ∀ z, z = lockAt (k + 6 * (i : Int)) → ∀ j, j < i + 1 → (l'.set i z)[j]? = some (lockAt (k + 6 * (j : Int))) := by
      rintro z rfl j hj
      rw [List.getElem?_set]
      by_cases e : i = j
      · subst e; rw [if_pos rfl, if_pos (by omega)]
      · rw [if_neg e]; exact g3 j (by omega)
    generalize hq : k + 6 * (i : Int) = q at *
    obtain ⟨hq0, hq1⟩ := hk0
    let q1 : Int := IntKind.i64.wrap (q + 1)
    let q2 : Int := IntKind.i64.wrap (q1 + 1)
    let q3 : Int := IntKind.i64.wrap (q2 + 1)
    let q4 : Int := IntKind.i64.wrap (q3 + 1)
    let q5 : Int := IntKind.i64.wrap (q4 + 1)
    have w1 : q1 = q + 1 := w64 (by omega) (by omega)
    have w2 : q2 = q + 2 := by show IntKind.i64.wrap (q1 + 1) = _; rw [w1, w64 (by omega) (by omega)]; omega
    have w3 : q3 = q + 3 := by show IntKind.i64.wrap (q2 + 1) = _; rw [w2, w64 (by omega) (by omega)]; omega
    have w4 : q4 = q + 4 := by show IntKind.i64.wrap (q3 + 1) = _; rw [w3, w64 (by omega) (by omega)]; omega
    have w5 : q5 = q + 5 := by show IntKind.i64.wrap (q4 + 1) = _; rw [w4, w64 (by omega) (by omega)]; omega
    have w6 : IntKind.i64.wrap (q5 + 1) = q + 6 := by rw [w5, w64 (by omega) (by omega)]; omega
    have hil : i < l'.length := by omega
    refine ⟨⟨⟨q, y.tx.e, y.tx.n⟩, y.rng, y.ex⟩, rfl, ?_⟩
    conv => whnf
    refine ⟨Int.natCast_nonneg _, Int.ofNat_lt.2 (by simp only [List.length_set]; exact hil), ?_⟩
    conv => whnf
    refine ex2 _ (nth_setI (by first | exact hil | (simp only [List.length_set]; exact hil))) ?_
    conv => whnf
    refine ⟨⟨⟨q, q1, y.tx.n⟩, y.rng, y.ex⟩, rfl, ?_⟩
    conv => whnf
    refine ⟨Int.natCast_nonneg _, Int.ofNat_lt.2 (by simp only [List.length_set]; exact hil), ?_⟩
    conv => whnf
    refine ex2 _ (nth_setI (by first | exact hil | (simp only [List.length_set]; exact hil))) ?_
    conv => whnf
    refine ⟨⟨⟨q, q1, q2⟩, y.rng, y.ex⟩, rfl, ?_⟩
    conv => whnf
    refine ⟨⟨q3, by omega, by omega⟩, rfl, ?_⟩
    rintro _ _ ⟨rfl, rfl⟩
    conv => whnf
    refine ⟨Int.natCast_nonneg _, Int.ofNat_lt.2 (by simp only [List.length_set]; exact hil), ?_⟩
    conv => whnf
    refine ex2 _ (nth_setI (by first | exact hil | (simp only [List.length_set]; exact hil))) ?_
    conv => whnf
    refine ⟨⟨⟨q, q1, q2⟩, ⟨mkT q3, y.rng.hi⟩, y.ex⟩, rfl, ?_⟩
    conv => whnf
    refine ⟨⟨q4, by omega, by omega⟩, rfl, ?_⟩
    rintro _ _ ⟨rfl, rfl⟩
    conv => whnf
    refine ⟨Int.natCast_nonneg _, Int.ofNat_lt.2 (by simp only [List.length_set]; exact hil), ?_⟩
    conv => whnf
    refine ex2 _ (nth_setI (by first | exact hil | (simp only [List.length_set]; exact hil))) ?_
    conv => whnf
    refine ⟨⟨⟨q, q1, q2⟩, ⟨mkT q3, mkT q4⟩, y.ex⟩, rfl, ?_⟩
    conv => whnf
    refine ⟨Int.natCast_nonneg _, Int.ofNat_lt.2 (by simp only [List.length_set]; exact hil), ?_⟩
    conv => whnf
    refine ex2 _ (nth_setI (by first | exact hil | (simp only [List.length_set]; exact hil))) ?_
    conv => whnf
    refine ⟨⟨⟨q, q1, q2⟩, ⟨mkT q3, mkT q4⟩, q5.tmod 3 == 0⟩, rfl, ?_⟩
    conv => whnf
    refine ⟨l.length - (i + 1), [(0, 0)], [(0, .sl 0 none), (1, .lf (.int .i64 (k + 6 * ((i + 1 : Nat) : Int)))), (5, .lf (.int .i64 ((i + 1 : Nat) : Int))), (1000000, .sl 0 none)], [(0, some (.row .own 6 LockX.ds (l'.set i (lockAt q))))], by omega, ⟨rfl, ⟨rfl, ?_, ?_, rfl, trivial⟩, ?_, trivial⟩, i + 1, _, by omega, by simp only [List.length_set]; exact g2, g3' _ rfl, rfl, rfl, rfl⟩
    · show V.lf (.int .i64 (IntKind.i64.wrap (q5 + 1))) = _
      rw [w6, hk1]
    · show V.lf (.int .i64 (IntKind.i64.wrap ((i : Int) + 1))) = _
      rw [w64 (by omega) (by omega)]; rfl
    · show some (Ob.row .own 6 LockX.ds ((((((l'.set i _).set i _).set i _).set i _).set i _).set i (⟨⟨q, q1, q2⟩, ⟨mkT q3, mkT q4⟩, q5.tmod 3 == 0⟩ : LockX))) = _
      rw [w1, w2, w3, w4, w5]
      simp only [List.set_set]
      rfl
  · have hi : i = l.length := by have := of_decide_eq_false h5; omega
    subst hi
    have e1 := eq_markL g2 g3
    conv => whnf
    refine ⟨⟨?_, rfl⟩⟩
    show [[D.row 6 LockX.ds l']] = _
    rw [e1]
theorem markLockS_ok : FnOk Try.prog 57 (cMarkS 6 LockX.ds markL 6) := fnOk_of fun x => fnX_at tab_ok (SOk.cons markText_ok SOk.nil) mixed (fn := Try.f57) (code := body Try.f57) ⟨Try.func57, rfl, by kernel_rfl, by kernel_rfl, by kernel_rfl, by kernel_rfl⟩ (ev_markLockS x)
theorem ev_heldLockS : ∀ x, evFnX tab [(117, (pureC MkX [(.rd, false)] [false] (fun x => [[.lf (.int .i64 x.n)]]) (fun x => [[.lf (.string (mkT x.n))]])))] (cHeldS 6 LockX.ds markL 6) Try.f59 (body Try.f59) x := by
  rintro ⟨⟨n, k, h1, h2⟩, hn⟩
  replace hn : n ≤ 1048576 := hn
  conv => whnf
  refine ⟨fun m s h => ∃ (i : Nat), i ≤ n ∧ m = n - i ∧ s = [(0, .sl 0 none), (1, .lf (.int .i64 (k + 6 * (i : Int)))), (5, .lf (.int .i64 i))] ∧ h = [(0, some (.row .lent 6 LockX.ds (markL k n)))],
    n, [(0, 0)], [(0, .sl 0 none), (1, .lf (.int .i64 k)), (5, .lf (.int .i64 0))], [(0, some (.row .lent 6 LockX.ds (markL k n)))], ⟨rfl, ⟨rfl, rfl, rfl, trivial⟩, rfl, trivial⟩, ⟨0, by omega, by omega, by simp, rfl⟩, ?_⟩
  rintro m _ _ ⟨i, g1, rfl, rfl, rfl⟩
  have hL : (markL k n).length = n := markL_len k n
  conv => whnf
  intro _
  conv => whnf
  refine br2 (fun h5 => ?_) (fun h5 => ?_)
  · have hi : i < n := by have := of_decide_eq_true h5; omega
    have hy := nthI (markL_get (k := k) hi)
    have hlt : (i : Int) < ((markL k n).length : Int) := by omega
    have hk0 : 0 ≤ k + 6 * (i : Int) ∧ k + 6 * (i : Int) ≤ 1099518000000 := by omega
    have hk1 : k + 6 * ((i + 1 : Nat) : Int) = k + 6 * (i : Int) + 6 := by omega
    generalize hq : k + 6 * (i : Int) = q at *
    obtain ⟨hq0, hq1⟩ := hk0
    let q1 : Int := IntKind.i64.wrap (q + 1)
    let q2 : Int := IntKind.i64.wrap (q1 + 1)
    let q3 : Int := IntKind.i64.wrap (q2 + 1)
    let q4 : Int := IntKind.i64.wrap (q3 + 1)
    let q5 : Int := IntKind.i64.wrap (q4 + 1)
    have w1 : q1 = q + 1 := w64 (by omega) (by omega)
    have w2 : q2 = q + 2 := by show IntKind.i64.wrap (q1 + 1) = _; rw [w1, w64 (by omega) (by omega)]; omega
    have w3 : q3 = q + 3 := by show IntKind.i64.wrap (q2 + 1) = _; rw [w2, w64 (by omega) (by omega)]; omega
    have w4 : q4 = q + 4 := by show IntKind.i64.wrap (q3 + 1) = _; rw [w3, w64 (by omega) (by omega)]; omega
    have w5 : q5 = q + 5 := by show IntKind.i64.wrap (q4 + 1) = _; rw [w4, w64 (by omega) (by omega)]; omega
    have w6 : IntKind.i64.wrap (q5 + 1) = q + 6 := by rw [w5, w64 (by omega) (by omega)]; omega
    conv => whnf
    refine ⟨Int.natCast_nonneg _, (show (i : Int) < ((markL k n).length : Int) by omega), ?_⟩
    conv => whnf
    refine ex2 _ hy ?_
    conv => whnf
    refine br2 (fun h => ?_) (fun _ => ?_)
    · exfalso
      replace h : ((q : Int) != q) = true := h
      simp at h
    conv => whnf
    refine ⟨Int.natCast_nonneg _, (show (i : Int) < ((markL k n).length : Int) by omega), ?_⟩
    conv => whnf
    refine ex2 _ hy ?_
    conv => whnf
    refine br2 (fun h => ?_) (fun _ => ?_)
    · exfalso
      replace h : ((q + 1 : Int) != q1) = true := h
      rw [w1] at h; simp at h
    conv => whnf
    refine ⟨Int.natCast_nonneg _, (show (i : Int) < ((markL k n).length : Int) by omega), ?_⟩
    conv => whnf
    refine ex2 _ hy ?_
    conv => whnf
    refine br2 (fun h => ?_) (fun _ => ?_)
    · exfalso
      replace h : ((q + 2 : Int) != q2) = true := h
      rw [w2] at h; simp at h
    conv => whnf
    refine ⟨Int.natCast_nonneg _, (show (i : Int) < ((markL k n).length : Int) by omega), ?_⟩
    conv => whnf
    refine ex2 _ hy ?_
    conv => whnf
    repeat (refine rc_i (by (conv => whnf); first | rfl | exact ⟨Int.natCast_nonneg _, hlt, rfl⟩ | exact ex2 _ hy rfl) ?_; conv => whnf)
    refine ⟨⟨q3, by omega, by omega⟩, rfl, ?_⟩
    rintro _ _ ⟨rfl, rfl⟩
    conv => whnf
    repeat (refine rc_i (by (conv => whnf); first | rfl | exact ⟨Int.natCast_nonneg _, hlt, rfl⟩ | exact ex2 _ hy rfl) ?_; conv => whnf)
    refine br2 (fun h => ?_) (fun _ => ?_)
    · exfalso
      replace h : (!strEq (mkT (q + 3)) (mkT q3)) = true := h
      rw [w3, strEq_refl] at h; cases h
    conv => whnf
    refine ⟨Int.natCast_nonneg _, (show (i : Int) < ((markL k n).length : Int) by omega), ?_⟩
    conv => whnf
    refine ex2 _ hy ?_
    conv => whnf
    repeat (refine rc_i (by (conv => whnf); first | rfl | exact ⟨Int.natCast_nonneg _, hlt, rfl⟩ | exact ex2 _ hy rfl) ?_; conv => whnf)
    refine ⟨⟨q4, by omega, by omega⟩, rfl, ?_⟩
    rintro _ _ ⟨rfl, rfl⟩
    conv => whnf
    repeat (refine rc_i (by (conv => whnf); first | rfl | exact ⟨Int.natCast_nonneg _, hlt, rfl⟩ | exact ex2 _ hy rfl) ?_; conv => whnf)
    refine br2 (fun h => ?_) (fun _ => ?_)
    · exfalso
      replace h : (!strEq (mkT (q + 4)) (mkT q4)) = true := h
      rw [w4, strEq_refl] at h; cases h
    conv => whnf
    refine ⟨Int.natCast_nonneg _, (show (i : Int) < ((markL k n).length : Int) by omega), ?_⟩
    conv => whnf
    refine ex2 _ hy ?_
    conv => whnf
    refine br2 (fun h => ?_) (fun _ => ?_)
    · exfalso
      replace h : (!(((q + 5).tmod 3 == 0) == (q5.tmod 3 == 0))) = true := h
      rw [w5] at h; simp at h
    conv => whnf
    refine ⟨n - (i + 1), [(0, 0)], [(0, .sl 0 none), (1, .lf (.int .i64 (k + 6 * ((i + 1 : Nat) : Int)))), (5, .lf (.int .i64 ((i + 1 : Nat) : Int)))], [(0, some (.row .lent 6 LockX.ds (markL k n)))], by omega, ⟨rfl, ⟨rfl, ?_, ?_, trivial⟩, rfl, trivial⟩, i + 1, by omega, rfl, rfl, rfl⟩
    · show V.lf (.int .i64 (IntKind.i64.wrap (q5 + 1))) = _
      rw [w6, hk1]
    · show V.lf (.int .i64 (IntKind.i64.wrap ((i : Int) + 1))) = _
      rw [w64 (by omega) (by omega)]; rfl
  · have hi : i = n := by have := of_decide_eq_false h5; omega
    subst hi
    conv => whnf
    exact ⟨⟨rfl, rfl⟩⟩
theorem heldLockS_ok : FnOk Try.prog 59 (cHeldS 6 LockX.ds markL 6) := fnOk_of fun x => fnX_at tab_ok (SOk.cons markText_ok SOk.nil) mixed (fn := Try.f59) (code := body Try.f59) ⟨Try.func59, rfl, by kernel_rfl, by kernel_rfl, by kernel_rfl, by kernel_rfl⟩ (ev_heldLockS x)
end Go.Vm
namespace Go.Vm
open Go.Proofs
set_option maxRecDepth 100000
set_option linter.unusedVariables false
set_option linter.unusedSimpArgs false

structure MarkLX where
  x : LocksX
  k : Int
  h1 : 0 ≤ k
  h2 : k ≤ 1000000000
  h3 : x.held.length ≤ 1048576
  h4 : x.wait.length ≤ 1048576
def markLocks (k : Int) (a b : Nat) : LocksX := ⟨markL k a, markL (k + 6 * (a : Int)) b⟩
def cMarkLocks : Con :=
  { X := MarkLX, params := [(.mut, true), (.rd, false)], res := [false], resOwn := true, ins := fun x => [x.x.ds, [.lf (.int .i64 x.k)]],
    post := fun x outs r => outs = [[.row 6 LockX.ds (markL x.k x.x.held.length)], [.row 6 LockX.ds (markL (x.k + 6 * (x.x.held.length : Int)) x.x.wait.length)]] ∧ r = [[.lf (.int .i64 (x.k + 6 * x.x.held.length + 6 * x.x.wait.length))]] }
theorem ev_markLocks : ∀ x, evFnX tab [(57, (cMarkS 6 LockX.ds markL 6))] cMarkLocks Try.f56 (body Try.f56) x := by
  rintro ⟨⟨l, m⟩, k, h1, h2, h3, h4⟩
  replace h3 : l.length ≤ 1048576 := h3
  replace h4 : m.length ≤ 1048576 := h4
  conv => whnf
  refine ⟨⟨⟨l, k, h1, by omega⟩, h3⟩, rfl, ?_⟩
  rintro _ _ ⟨rfl, rfl⟩
  conv => whnf
  refine ⟨⟨⟨m, k + 6 * l.length, by omega, by omega⟩, h4⟩, rfl, ?_⟩
  rintro _ _ ⟨rfl, rfl⟩
  conv => whnf
  exact ⟨⟨rfl, rfl⟩⟩
theorem markLocks_ok : FnOk Try.prog 56 cMarkLocks := fnOk_of fun x => fnX_at tab_ok (SOk.cons markLockS_ok SOk.nil) mixed (fn := Try.f56) (code := body Try.f56) ⟨Try.func56, rfl, by kernel_rfl, by kernel_rfl, by kernel_rfl, by kernel_rfl⟩ (ev_markLocks x)
structure HeldLX where
  k : Int
  a : Nat
  b : Nat
  h1 : 0 ≤ k
  h2 : k ≤ 1000000000
  h3 : a ≤ 1048576
  h4 : b ≤ 1048576
def cHeldLocks : Con :=
  { X := HeldLX, params := [(.rd, true), (.rd, false)], res := [false], resOwn := true, ins := fun x => [(markLocks x.k x.a x.b).ds, [.lf (.int .i64 x.k)]],
    post := fun x outs r => outs = [] ∧ r = [[.lf (.int .i64 (x.k + 6 * x.a + 6 * x.b))]] }
theorem ev_heldLocks : ∀ x, evFnX tab [(59, (cHeldS 6 LockX.ds markL 6))] cHeldLocks Try.f58 (body Try.f58) x := by
  rintro ⟨k, a, b, h1, h2, h3, h4⟩
  conv => whnf
  refine ⟨⟨⟨a, k, h1, by omega⟩, h3⟩, rfl, ?_⟩
  rintro _ _ ⟨rfl, rfl⟩
  conv => whnf
  refine br2 (fun h => ?_) (fun _ => ?_)
  · exfalso
    have : k + 6 * (a : Int) < 0 := of_decide_eq_true h
    omega
  conv => whnf
  refine ⟨⟨⟨b, k + 6 * (a : Int), by omega, by omega⟩, h4⟩, rfl, ?_⟩
  rintro _ _ ⟨rfl, rfl⟩
  conv => whnf
  refine br2 (fun h => ?_) (fun _ => ?_)
  · exfalso
    have : k + 6 * (a : Int) + 6 * (b : Int) < 0 := of_decide_eq_true h
    omega
  conv => whnf
  exact ⟨⟨rfl, rfl⟩⟩
theorem heldLocks_ok : FnOk Try.prog 58 cHeldLocks := fnOk_of fun x => fnX_at tab_ok (SOk.cons heldLockS_ok SOk.nil) mixed (fn := Try.f58) (code := body Try.f58) ⟨Try.func58, rfl, by kernel_rfl, by kernel_rfl, by kernel_rfl, by kernel_rfl⟩ (ev_heldLocks x)
theorem FreeR.same {x : LocksX} {t : TxX} {y y' : LocksX} {g g' : List LockX} (h : FreeR x t y g) (h' : FreeR x t y' g') : y = y' ∧ g = g' := by
  by_cases hx : LocksOkP x
  · obtain ⟨a, b⟩ := h.yes hx; obtain ⟨c, d⟩ := h'.yes hx; exact ⟨a.trans c.symm, b.trans d.symm⟩
  · obtain ⟨a, b⟩ := h.no hx; obtain ⟨c, d⟩ := h'.no hx; exact ⟨a.trans c.symm, b.trans d.symm⟩
theorem FreeR.len {x : LocksX} {t : TxX} {y : LocksX} {g : List LockX} (h : FreeR x t y g) : y.held.length + y.wait.length ≤ x.held.length + x.wait.length ∧ g.length ≤ x.wait.length := by
  by_cases hx : LocksOkP x
  · obtain ⟨a, b⟩ := h.yes hx
    subst a b
    obtain ⟨h1, h2⟩ := frRun_len (x.held.filter (notTx t)) (x.wait.filter (notTx t))
    have h3 := List.length_filter_le (notTx t) x.held
    have h4 := List.length_filter_le (notTx t) x.wait
    exact ⟨by show (frRun _ _).h.length + (frRun _ _).s.length ≤ _; omega, by show (frRun _ _).g.length ≤ _; omega⟩
  · obtain ⟨a, b⟩ := h.no hx
    subst a b; simp
structure FreeZ where
  x : LocksX
  t : TxX
  hb : locksB0 x
theorem ev_lawLockFree : ∀ x, evFnX tab [(27, (cSz LocksX.ds locksB0 locksB)), (29, cToLocks), (42, (cCopy TxX.ds)), (53, cLockFree), (54, cLockFree), (31, (cEq LocksX.ds)), (55, (cEqS 6 LockX.ds)), (56, cMarkLocks), (57, (cMarkS 6 LockX.ds markL 6)), (58, cHeldLocks), (59, (cHeldS 6 LockX.ds markL 6))] (pureC FreeZ [(.rd, true), (.rd, true)] [false] (fun x => [x.x.ds, x.t.ds]) (fun _ => [[.lf (.bool true)]])) Try.f11 (body Try.f11) x := by
  rintro ⟨x, tx, hb⟩
  conv => whnf
  refine ⟨⟨x, 1048576, by omega, by omega, hb⟩, rfl, ?_⟩
  rintro _ _ ⟨rfl, k, rfl, k1, k2, k3⟩
  conv => whnf
  refine br2 (fun h3 => ?_) (fun h3 => ?_)
  · conv => whnf
    exact ⟨⟨rfl, rfl⟩⟩
  have h3' := of_decide_eq_false h3
  obtain ⟨k4, _, _⟩ : locksB x := k3 (by omega)
  have l1 : x.held.length ≤ 1048576 := by omega
  have l2 : x.wait.length ≤ 1048576 := by omega
  conv => whnf
  repeat (refine rc_i rfl ?_; conv => whnf)
  refine ⟨⟨x, by omega, by omega⟩, rfl, ?_⟩
  rintro _ _ ⟨rfl, rfl⟩
  conv => whnf
  repeat (refine rc_i rfl ?_; conv => whnf)
  refine ⟨tx, rfl, ?_⟩
  rintro _ _ ⟨rfl, rfl⟩
  conv => whnf
  repeat (refine rc_i rfl ?_; conv => whnf)
  refine ⟨⟨x, tx, l1, l2⟩, rfl, ?_⟩
  rintro _ _ ⟨rfl, y, g, rfl, e1⟩
  obtain ⟨n1, n2⟩ := e1.len
  replace n1 : y.held.length + y.wait.length ≤ x.held.length + x.wait.length := n1
  replace n2 : g.length ≤ x.wait.length := n2
  conv => whnf
  repeat (refine rc_i rfl ?_; conv => whnf)
  refine ⟨⟨x, by omega, by omega⟩, rfl, ?_⟩
  rintro _ _ ⟨rfl, rfl⟩
  conv => whnf
  repeat (refine rc_i rfl ?_; conv => whnf)
  refine ⟨tx, rfl, ?_⟩
  rintro _ _ ⟨rfl, rfl⟩
  conv => whnf
  repeat (refine rc_i rfl ?_; conv => whnf)
  refine ⟨⟨x, tx, l1, l2⟩, rfl, ?_⟩
  rintro _ _ ⟨rfl, y', g', rfl, e2⟩
  obtain ⟨rfl, rfl⟩ := e1.same e2
  conv => whnf
  repeat (refine rc_i rfl ?_; conv => whnf)
  refine ⟨(y, y), rfl, ?_⟩
  rintro _ _ ⟨rfl, rfl⟩
  conv => whnf
  have hy : (!eqX y y) = false := by rw [eqX_refl]; rfl
  have hg : (!eqX g g) = false := by rw [eqX_refl]; rfl
  have hx : (!eqX x x) = false := by rw [eqX_refl]; rfl
  refine br2 (fun h => absurd (hy.symm.trans h) (by simp)) (fun _ => ?_)
  conv => whnf
  refine ⟨(g, g), rfl, ?_⟩
  rintro _ _ ⟨rfl, rfl⟩
  conv => whnf
  refine br2 (fun h => absurd (hg.symm.trans h) (by simp)) (fun _ => ?_)
  conv => whnf
  repeat (refine rc_i rfl ?_; conv => whnf)
  refine ⟨⟨x, by omega, by omega⟩, rfl, ?_⟩
  rintro _ _ ⟨rfl, rfl⟩
  conv => whnf
  repeat (refine rc_i rfl ?_; conv => whnf)
  refine ⟨(x, x), rfl, ?_⟩
  rintro _ _ ⟨rfl, rfl⟩
  conv => whnf
  refine br2 (fun h => absurd (hx.symm.trans h) (by simp)) (fun _ => ?_)
  conv => whnf
  refine ⟨⟨x, 1, by omega, by omega, l1, l2⟩, rfl, ?_⟩
  rintro _ _ ⟨rfl, rfl⟩
  conv => whnf
  refine ⟨(y, y), rfl, ?_⟩
  rintro _ _ ⟨rfl, rfl⟩
  conv => whnf
  refine br2 (fun h => absurd (hy.symm.trans h) (by simp)) (fun _ => ?_)
  conv => whnf
  refine ⟨(g, g), rfl, ?_⟩
  rintro _ _ ⟨rfl, rfl⟩
  conv => whnf
  refine br2 (fun h => absurd (hg.symm.trans h) (by simp)) (fun _ => ?_)
  conv => whnf
  refine ⟨⟨y, 1, by omega, by omega, by omega, by omega⟩, rfl, ?_⟩
  rintro _ _ ⟨rfl, rfl⟩
  conv => whnf
  let m0 : Int := 1 + 6 * (y.held.length : Int) + 6 * (y.wait.length : Int)
  refine ⟨⟨⟨g, m0, by omega, by omega⟩, (show g.length ≤ 1048576 by omega)⟩, rfl, ?_⟩
  rintro _ _ ⟨rfl, rfl⟩
  conv => whnf
  refine ⟨⟨1, y.held.length, y.wait.length, by omega, by omega, by omega, by omega⟩, rfl, ?_⟩
  rintro _ _ ⟨rfl, rfl⟩
  conv => whnf
  refine ⟨⟨⟨g.length, m0, by omega, by omega⟩, (show g.length ≤ 1048576 by omega)⟩, rfl, ?_⟩
  rintro _ _ ⟨rfl, rfl⟩
  conv => whnf
  refine br2 (fun h => ?_) (fun _ => ?_)
  · exfalso
    replace h : (m0 + 6 * (g.length : Int) != m0 + 6 * (g.length : Int)) = true := h
    simp at h
  conv => whnf
  repeat (refine rc_i rfl ?_; conv => whnf)
  refine ⟨⟨x, by omega, by omega⟩, rfl, ?_⟩
  rintro _ _ ⟨rfl, rfl⟩
  conv => whnf
  repeat (refine rc_i rfl ?_; conv => whnf)
  refine ⟨tx, rfl, ?_⟩
  rintro _ _ ⟨rfl, rfl⟩
  conv => whnf
  repeat (refine rc_i rfl ?_; conv => whnf)
  refine ⟨⟨x, tx, l1, l2⟩, rfl, ?_⟩
  rintro _ _ ⟨rfl, y', g', rfl, e3⟩
  obtain ⟨rfl, rfl⟩ := e1.same e3
  conv => whnf
  repeat (refine rc_i rfl ?_; conv => whnf)
  refine ⟨(y, y), rfl, ?_⟩
  rintro _ _ ⟨rfl, rfl⟩
  conv => whnf
  refine br2 (fun h => absurd (hy.symm.trans h) (by simp)) (fun _ => ?_)
  conv => whnf
  refine ⟨(g, g), rfl, ?_⟩
  rintro _ _ ⟨rfl, rfl⟩
  conv => whnf
  refine br2 (fun h => absurd (hg.symm.trans h) (by simp)) (fun _ => ?_)
  conv => whnf
  refine ⟨⟨1, y.held.length, y.wait.length, by omega, by omega, by omega, by omega⟩, rfl, ?_⟩
  rintro _ _ ⟨rfl, rfl⟩
  conv => whnf
  refine ⟨⟨⟨g.length, m0, by omega, by omega⟩, (show g.length ≤ 1048576 by omega)⟩, rfl, ?_⟩
  rintro _ _ ⟨rfl, rfl⟩
  conv => whnf
  refine br2 (fun h => ?_) (fun _ => ?_)
  · exfalso
    replace h : (m0 + 6 * (g.length : Int) != m0 + 6 * (g.length : Int)) = true := h
    simp at h
  conv => whnf
  exact ⟨⟨rfl, rfl⟩⟩
theorem lawLockFree_ok : FnOk Try.prog 11 (pureC FreeZ [(.rd, true), (.rd, true)] [false] (fun x => [x.x.ds, x.t.ds]) (fun _ => [[.lf (.bool true)]])) := fnOk_of fun x => fnX_at tab_ok (SOk.cons szLocks_ok (SOk.cons toLocks_ok (SOk.cons toTx_ok (SOk.cons sLockFree_ok (SOk.cons iLockFree_ok (SOk.cons eqLocks_ok (SOk.cons eqLockS_ok (SOk.cons markLocks_ok (SOk.cons markLockS_ok (SOk.cons heldLocks_ok (SOk.cons heldLockS_ok SOk.nil))))))))))) mixed (fn := Try.f11) (code := body Try.f11) ⟨Try.func11, rfl, by kernel_rfl, by kernel_rfl, by kernel_rfl, by kernel_rfl⟩ (ev_lawLockFree x)
end Go.Vm
