/- Contracts: words. -/
import Derived.Test.YthoiahaedhnigaaVmT
namespace Go.Vm
open Go.Proofs

def body (f : Func) : Code := match f.body with | some c => c | none => .skip
/-- A function whose results are told by its parameters and that changes nothing. -/
def pureC (X : Type) (params : List (Mode × Bool)) (res : List Bool) (ins : X → List (List D)) (f : X → List (List D)) : Con :=
  { X := X, params := params, res := res, resOwn := true, ins := ins, post := fun x outs r => outs = [] ∧ r = f x }
/-- One of whose results something is known. -/
def relC (X : Type) (params : List (Mode × Bool)) (res : List Bool) (ins : X → List (List D)) (R : X → List (List D) → Prop) : Con :=
  { X := X, params := params, res := res, resOwn := true, ins := ins, post := fun x outs r => outs = [] ∧ R x r }

theorem SOk.nil {P : Program} : SOk P [] := fun p hp => by simp at hp
theorem SOk.cons {P : Program} {f : Nat} {c : Con} {S : Cons} (h : FnOk P f c) (hs : SOk P S) : SOk P ((f, c) :: S) := fun p hp => by
  rcases List.mem_cons.1 hp with rfl | hp
  · exact h
  · exact hs p hp

/-- A mark: at this region moves are told that the program does not see. -/
def cGh : Con := { X := Empty, params := [], res := [], resOwn := true, ins := fun _ => [], post := fun _ _ _ => True }
theorem gh_ok {P : Program} {n : Nat} : FnOk P n cGh := fun x => nomatch x
theorem nthI {β : Type} {l : List β} {j : Nat} {y : β} (h : l[j]? = some y) : nth l ((j : Nat) : Int).toNat = some y := by rw [nth_eq, Int.toNat_natCast]; exact h
theorem getL {β : Type} {l : List β} {j : Nat} (h : j < l.length) : ∃ y, l[j]? = some y := ⟨_, List.getElem?_eq_getElem h⟩

/-- Equality as a bool. -/
noncomputable def eqX {α : Type} (a b : α) : Bool := haveI := Classical.propDecidable (a = b); decide (a = b)
theorem eqX_iff {α : Type} {a b : α} : eqX a b = true ↔ a = b := by unfold eqX; simp
theorem eqX_no {α : Type} {a b : α} : eqX a b = false ↔ a ≠ b := by unfold eqX; simp
theorem eqX_refl {α : Type} (a : α) : eqX a a = true := eqX_iff.2 rfl
theorem b_iff {a b : Bool} : a = b ↔ (a = true ↔ b = true) := by cases a <;> cases b <;> simp

theorem w64 {n : Int} (h1 : -9223372036854775808 ≤ n) (h2 : n ≤ 9223372036854775807) : IntKind.i64.wrap n = n := by
  simp [IntKind.wrap, IntKind.bits, IntKind.signed]; omega
/-- The byte of a number. -/
def b8 (n : Int) : UInt8 := UInt8.ofNat (n % 256).toNat
theorem w8 (n : Int) : IntKind.u8.wrap n = ((b8 n).toNat : Int) := by
  simp [IntKind.wrap, IntKind.bits, IntKind.signed, b8]
  omega
theorem encB_len (a : UInt8) : (encB a).length = 1 := rfl
theorem flat_encB (a : UInt8) : flatL (encB a) = true := rfl
theorem map_b8 (n : Int) : [b8 n].map encB = [[.lf (.int .u8 (IntKind.u8.wrap n))]] := by rw [w8]; rfl

theorem u8_of {n : Int} {k : Nat} (h : n = k) (hk : k < 256) : IntKind.u8.wrap n = ((UInt8.ofNat k).toNat : Int) := by
  subst h
  rw [w8]
  congr 2
  unfold b8
  congr 1
  omega
theorem enc_u8 {n : Int} {k : Nat} (h : n = k) (hk : k < 256) : [UInt8.ofNat k].map encB = [[.lf (.int .u8 (IntKind.u8.wrap n))]] := by rw [u8_of h hk]; rfl
theorem tmodN (n : Nat) (k : Nat) : (n : Int).tmod k = ((n % k : Nat) : Int) := by rw [Int.tmod_eq_emod_of_nonneg (by omega)]; rfl
theorem tdivN (n : Nat) (k : Nat) : (n : Int).tdiv k = ((n / k : Nat) : Int) := by rw [Int.tdiv_eq_ediv_of_nonneg (by omega)]; rfl

theorem tmod128 (n : Nat) : (n : Int).tmod 128 = ((n % 128 : Nat) : Int) := tmodN n 128
theorem tdiv128 (n : Nat) : (n : Int).tdiv 128 = ((n / 128 : Nat) : Int) := tdivN n 128
theorem tmod10 (n : Nat) : (n : Int).tmod 10 = ((n % 10 : Nat) : Int) := tmodN n 10
theorem tdiv10 (n : Nat) : (n : Int).tdiv 10 = ((n / 10 : Nat) : Int) := tdivN n 10

/-- A number in base 128. -/
def varB (n : Nat) : List UInt8 := if n < 128 then [UInt8.ofNat n] else UInt8.ofNat (n % 128 + 128) :: varB (n / 128)
theorem varB_lt {n : Nat} (h : n < 128) : varB n = [UInt8.ofNat n] := by rw [varB, if_pos h]
theorem varB_ge {n : Nat} (h : ¬ n < 128) : varB n = UInt8.ofNat (n % 128 + 128) :: varB (n / 128) := by rw [varB, if_neg h]
end Go.Vm
namespace Go.Vm
open Go.Proofs
set_option maxRecDepth 100000
set_option linter.unusedVariables false
set_option linter.unusedSimpArgs false

theorem varB_le {k n : Nat} (h : n < 128 ^ k) (hk : 0 < k) : (varB n).length ≤ k := by
  have key : ∀ k n, n < 128 ^ k → 0 < k → (varB n).length ≤ k := by
    intro k
    induction k with
    | zero => intro n h h0; omega
    | succ k ih =>
      intro n h _
      by_cases hn : n < 128
      · rw [varB_lt hn]; simp
      · rw [varB_ge hn]
        rw [Nat.pow_succ] at h
        have : n / 128 < 128 ^ k := Nat.div_lt_of_lt_mul (by omega)
        have hk : 0 < k := by
          rcases Nat.eq_zero_or_pos k with rfl | h1
          · simp at h; omega
          · exact h1
        have := ih _ this hk
        simp; omega
  exact key k n h hk
theorem varB_len {n : Nat} (h : n ≤ 9223372036854775807) : (varB n).length ≤ 10 := varB_le (by omega) (by omega)
theorem varB_len6 {n : Nat} (h : n ≤ 1099511627775) : (varB n).length ≤ 6 := varB_le (by omega) (by omega)
theorem varB_pos (n : Nat) : 1 ≤ (varB n).length := by
  by_cases h : n < 128
  · rw [varB_lt h]; simp
  · rw [varB_ge h]; simp
/-- The bytes of a text; a text behind its length. -/
def bs (s : ByteArray) : List UInt8 := s.data.toList
def encT (s : ByteArray) : List UInt8 := varB s.size ++ bs s
theorem bs_len (s : ByteArray) : (bs s).length = s.size := by simp [bs]
def ofB (l : List UInt8) : ByteArray := ⟨l.toArray⟩
theorem bs_of (l : List UInt8) : bs (ofB l) = l := by simp [bs, ofB]
theorem of_bs (s : ByteArray) : ofB (bs s) = s := by simp [bs, ofB]
theorem of_size (l : List UInt8) : (ofB l).size = l.length := by rw [← bs_len, bs_of]

structure VaryX where
  l : List UInt8
  n : Nat
  hl : l.length ≤ 4294967000
  hn : n ≤ 9223372036854775807
def cVary : Con := pureC VaryX [(.take, false), (.rd, false)] [false] (fun x => [[.row 1 encB x.l], [.lf (.int .i64 x.n)]]) (fun x => [[.row 1 encB (x.l ++ varB x.n)]])

theorem ev_vary : ∀ x, evFn tab [] cVary Try.f143 (body Try.f143) x := by
  rintro ⟨l, n, hl, hn⟩
  conv => whnf
  refine ⟨fun m s h => ∃ (l' : List UInt8) (n' : Nat), l ++ varB n = l' ++ varB n' ∧ n' ≤ 9223372036854775807 ∧ m = n' ∧ s = [(0, .sl 0 none), (1, .lf (.int .i64 n'))] ∧ h = [(0, some (.row .own 1 encB l'))],
    n, [(0, 0)], [(0, .sl 0 none), (1, .lf (.int .i64 n))], [(0, some (.row .own 1 encB l))], ⟨rfl, ⟨rfl, rfl, trivial⟩, ⟨rfl, trivial⟩⟩, ⟨l, n, rfl, hn, rfl, rfl, rfl⟩, ?_⟩
  rintro m _ _ ⟨l', n', h1, h2, rfl, rfl, rfl⟩
  have hlen := congrArg List.length h1
  have hv := varB_len hn
  simp only [List.length_append] at hlen
  conv => whnf
  refine br2 (fun h3 => ?_) (fun h3 => ?_)
  · have h3' : ¬ m < 128 := by simp at h3; omega
    have hm : ((m : Int).tmod 128) = ((m % 128 : Nat) : Int) := tmodN m 128
    have hd : ((m : Int).tdiv 128) = ((m / 128 : Nat) : Int) := tdivN m 128
    rw [varB_ge h3'] at h1 hlen
    simp only [List.length_cons] at hlen
    conv => whnf
    refine ⟨[UInt8.ofNat (m % 128 + 128)], enc_u8 (by rw [hm, w64] <;> omega) (by omega), ?_, ?_⟩
    · show l'.length + 1 ≤ 4294967296; omega
    conv => whnf
    refine ⟨m / 128, [(208, 0)], [(0, .sl 0 none), (1, .lf (.int .i64 (m / 128 : Nat)))], [(0, some (.row .own 1 encB (l' ++ [UInt8.ofNat (m % 128 + 128)])))], by omega, ⟨rfl, ⟨rfl, ?_, trivial⟩, ⟨rfl, trivial⟩⟩, _, _, ?_, ?_, rfl, rfl, rfl⟩
    · show V.lf (.int .i64 (IntKind.i64.wrap ((m : Int).tdiv 128))) = _
      rw [hd, w64] <;> omega
    · rw [h1]; simp
    · omega
  · have h3' : m < 128 := by simp at h3; omega
    rw [varB_lt h3'] at h1 hlen
    simp at hlen
    conv => whnf
    refine ⟨[UInt8.ofNat m], enc_u8 rfl (by omega), ?_, ?_⟩
    · show l'.length + 1 ≤ 4294967296; omega
    conv => whnf
    refine ⟨⟨rfl, ?_⟩⟩
    show _ = [[D.row 1 encB (l ++ varB n)]]
    rw [h1]; rfl
theorem vary_ok : FnOk Try.prog 143 cVary := fnOk_of fun x => fn_at tab_ok (SOk.nil) mixed (fn := Try.f143) (code := body Try.f143) ⟨Try.func143, rfl, by kernel_rfl, by kernel_rfl, by kernel_rfl, by kernel_rfl⟩ (ev_vary x)

structure TextX where
  l : List UInt8
  s : ByteArray
  hl : l.length ≤ 4000000000
  hs : s.size ≤ 100000000
def cText : Con := pureC TextX [(.take, false), (.rd, false)] [false] (fun x => [[.row 1 encB x.l], [.lf (.string x.s)]]) (fun x => [[.row 1 encB (x.l ++ encT x.s)]])
theorem ev_iText : ∀ x, evFn tab [(143, cVary)] cText Try.f98 (body Try.f98) x := by
  rintro ⟨l, s, hl, hs⟩
  conv => whnf
  refine ⟨⟨l, s.size, by omega, by omega⟩, rfl, ?_⟩
  rintro _ _ ⟨rfl, rfl⟩
  conv => whnf
  refine ⟨bs s, rfl, ?_, ?_⟩
  · show (l ++ varB s.size).length + (bs s).length ≤ 4294967296
    have := varB_len (n := s.size) (by omega)
    rw [bs_len, List.length_append]; omega
  conv => whnf
  refine ⟨⟨rfl, ?_⟩⟩
  show [[D.row 1 encB (l ++ varB s.size ++ bs s)]] = _
  simp [encT, List.append_assoc]
theorem iText_ok : FnOk Try.prog 98 cText := fnOk_of fun x => fn_at tab_ok (SOk.cons vary_ok SOk.nil) mixed (fn := Try.f98) (code := body Try.f98) ⟨Try.func98, rfl, by kernel_rfl, by kernel_rfl, by kernel_rfl, by kernel_rfl⟩ (ev_iText x)

structure IX where
  n : Int
  h1 : -9223372036854775808 ≤ n
  h2 : n ≤ 9223372036854775807
def numB (n : Int) : Bool := decide (0 ≤ n) && decide (n ≤ 1099511627775)
def cNum : Con := pureC IX [(.rd, false)] [false] (fun x => [[.lf (.int .i64 x.n)]]) (fun x => [[.lf (.bool (numB x.n))]])
theorem ev_l01Num : ∀ x, evFn tab [] cNum Try.f106 (body Try.f106) x := by
  rintro ⟨n, h1, h2⟩
  repeat' ((conv => whnf); refine br2 (fun h => ?_) (fun h => ?_))
  all_goals (conv => whnf)
  all_goals refine ⟨⟨rfl, ?_⟩⟩
  all_goals simp_all [numB] <;> omega
theorem l01Num_ok : FnOk Try.prog 106 cNum := fnOk_of fun x => fn_at tab_ok (SOk.nil) mixed (fn := Try.f106) (code := body Try.f106) ⟨Try.func106, rfl, by kernel_rfl, by kernel_rfl, by kernel_rfl, by kernel_rfl⟩ (ev_l01Num x)

structure PutX where
  l : List UInt8
  n : Int
  hl : l.length ≤ 4294967000
  h1 : -9223372036854775808 ≤ n
  h2 : n ≤ 9223372036854775807
def putB (l : List UInt8) (n : Int) : Bool := numB n && decide (l.length + (varB n.toNat).length ≤ 4096)
def putL (l : List UInt8) (n : Int) : List UInt8 := if putB l n then l ++ varB n.toNat else []
def cPutVar : Con := pureC PutX [(.rd, false), (.rd, false)] [false, false] (fun x => [[.row 1 encB x.l], [.lf (.int .i64 x.n)]]) (fun x => [[.row 1 encB (putL x.l x.n)], [.lf (.bool (putB x.l x.n))]])
theorem ev_putVar : ∀ x, evFn tab [(106, cNum)] cPutVar Try.f159 (body Try.f159) x := by
  rintro ⟨l, n, hl, h1, h2⟩
  conv => whnf
  refine ⟨⟨n, h1, h2⟩, rfl, ?_⟩
  rintro _ _ ⟨rfl, rfl⟩
  conv => whnf
  refine br2 (fun h3 => ?_) (fun h3 => ?_)
  · have h3' : numB n = false := by simpa using h3
    conv => whnf
    refine ⟨1, UInt8, encB, encB_len, ?_⟩
    conv => whnf
    refine ⟨⟨rfl, ?_⟩⟩
    show _ = [[D.row 1 encB (putL l n)], [D.lf (.bool (putB l n))]]
    simp [putL, putB, h3']
  · have h3' : numB n = true := by simpa using h3
    obtain ⟨h4, h5⟩ : 0 ≤ n ∧ n ≤ 1099511627775 := by simpa [numB] using h3'
    obtain ⟨k, rfl⟩ : ∃ k : Nat, n = k := ⟨n.toNat, by omega⟩
    conv => whnf
    refine ⟨true, ?_⟩
    conv => whnf
    refine ⟨UInt8, encB, [], encB_len, rfl, ?_⟩
    conv => whnf
    refine ⟨flat_encB, l, rfl, ?_, ?_⟩
    · show 0 + l.length ≤ 4294967296; omega
    conv => whnf
    refine ⟨fun m s h => ∃ (l' : List UInt8) (n' : Nat), l ++ varB k = l' ++ varB n' ∧ n' ≤ 1099511627775 ∧ m = n' ∧ s = [(6, .sl 0 none), (1, .lf (.int .i64 n')), (4, .lf (.slice none 0 0)), (5, .lf (.bool false))] ∧ h = [(0, some (.row .own 1 encB l'))],
      k, [(192, 0)], [(6, .sl 0 none), (1, .lf (.int .i64 k)), (4, .lf (.slice none 0 0)), (5, .lf (.bool false))], [(0, some (.row .own 1 encB l))], ⟨rfl, ⟨rfl, rfl, rfl, rfl, trivial⟩, ⟨rfl, trivial⟩⟩, ⟨l, k, rfl, by omega, rfl, rfl, rfl⟩, ?_⟩
    rintro m _ _ ⟨l', n', e1, e2, rfl, rfl, rfl⟩
    have hlen := congrArg List.length e1
    have hv := varB_len6 (n := k) (by omega)
    simp only [List.length_append] at hlen
    conv => whnf
    refine br2 (fun g3 => ?_) (fun g3 => ?_)
    · have g3' : ¬ m < 128 := by simp at g3; omega
      have hm : ((m : Int).tmod 128) = ((m % 128 : Nat) : Int) := tmodN m 128
      have hd : ((m : Int).tdiv 128) = ((m / 128 : Nat) : Int) := tdivN m 128
      rw [varB_ge g3'] at e1 hlen
      simp only [List.length_cons] at hlen
      conv => whnf
      refine ⟨[UInt8.ofNat (m % 128 + 128)], enc_u8 (by rw [hm, w64] <;> omega) (by omega), ?_, ?_⟩
      · show l'.length + 1 ≤ 4294967296; omega
      conv => whnf
      refine ⟨m / 128, [(336, 0)], [(6, .sl 0 none), (1, .lf (.int .i64 (m / 128 : Nat))), (4, .lf (.slice none 0 0)), (5, .lf (.bool false))], [(0, some (.row .own 1 encB (l' ++ [UInt8.ofNat (m % 128 + 128)])))], by omega, ⟨rfl, ⟨rfl, ?_, rfl, rfl, trivial⟩, ⟨rfl, trivial⟩⟩, _, _, ?_, ?_, rfl, rfl, rfl⟩
      · show V.lf (.int .i64 (IntKind.i64.wrap ((m : Int).tdiv 128))) = _
        rw [hd, w64] <;> omega
      · rw [e1]; simp
      · omega
    · have g3' : m < 128 := by simp at g3; omega
      rw [varB_lt g3'] at e1 hlen
      simp at hlen
      conv => whnf
      refine ⟨[UInt8.ofNat m], enc_u8 rfl (by omega), ?_, ?_⟩
      · show l'.length + 1 ≤ 4294967296; omega
      conv => whnf
      intro _
      conv => whnf
      have hL : (cutL none l' ++ [UInt8.ofNat m] : List UInt8) = l ++ varB k := e1.symm
      refine br2 (fun g4 => ?_) (fun g4 => ?_)
      · conv => whnf
        refine ⟨1, UInt8, encB, encB_len, ?_⟩
        conv => whnf
        refine ⟨⟨rfl, ?_⟩⟩
        rw [hL] at g4
        have : ¬ l.length + (varB k).length ≤ 4096 := by simp at g4; omega
        show _ = [[D.row 1 encB (putL l k)], [D.lf (.bool (putB l k))]]
        simp [putL, putB, this]
      · conv => whnf
        refine ⟨⟨rfl, ?_⟩⟩
        rw [hL] at g4
        have : l.length + (varB k).length ≤ 4096 := by simp at g4; omega
        show [[D.row 1 encB (cutL none (cutL none l' ++ [UInt8.ofNat m]))], _] = [[D.row 1 encB (putL l k)], [D.lf (.bool (putB l k))]]
        rw [hL]
        simp [putL, putB, this, h3', cutL]
theorem putVar_ok : FnOk Try.prog 159 cPutVar := fnOk_of fun x => fn_at tab_ok (SOk.cons l01Num_ok SOk.nil) mixed (fn := Try.f159) (code := body Try.f159) ⟨Try.func159, rfl, by kernel_rfl, by kernel_rfl, by kernel_rfl, by kernel_rfl⟩ (ev_putVar x)
end Go.Vm
namespace Go.Vm
open Go.Proofs
set_option maxRecDepth 100000
set_option linter.unusedVariables false
set_option linter.unusedSimpArgs false

structure PutTX where
  l : List UInt8
  s : ByteArray
  hl : l.length ≤ 4000000000
  hs : s.size ≤ 100000000
def putTB (l : List UInt8) (s : ByteArray) : Bool := decide (l.length + (encT s).length ≤ 4096)
def putTL (l : List UInt8) (s : ByteArray) : List UInt8 := if putTB l s then l ++ encT s else []
def cPutText : Con := pureC PutTX [(.rd, false), (.rd, false)] [false, false] (fun x => [[.row 1 encB x.l], [.lf (.string x.s)]]) (fun x => [[.row 1 encB (putTL x.l x.s)], [.lf (.bool (putTB x.l x.s))]])
theorem ev_sPutText : ∀ x, evFn tab [(159, cPutVar)] cPutText Try.f130 (body Try.f130) x := by
  rintro ⟨l, s, hl, hs⟩
  conv => whnf
  refine ⟨⟨l, s.size, by omega, by omega, by omega⟩, rfl, ?_⟩
  rintro _ _ ⟨rfl, rfl⟩
  have hT : (encT s).length = (varB s.size).length + s.size := by simp [encT, bs_len]
  have hn : numB (s.size : Int) = true := by simp [numB]; omega
  conv => whnf
  refine br2 (fun h3 => ?_) (fun h3 => ?_)
  · have h3' : putB l s.size = false := by simpa using h3
    conv => whnf
    refine ⟨1, UInt8, encB, encB_len, ?_⟩
    conv => whnf
    refine ⟨⟨rfl, ?_⟩⟩
    have : ¬ l.length + (varB s.size).length ≤ 4096 := by simpa [putB, hn] using h3'
    have h : putTB l s = false := by simp [putTB, hT]; omega
    show _ = [[D.row 1 encB (putTL l s)], [D.lf (.bool (putTB l s))]]
    simp [putTL, h]
  · have h3' : putB l s.size = true := by simpa using h3
    have h5 : l.length + (varB s.size).length ≤ 4096 := by simpa [putB, hn] using h3'
    have hL : putL l s.size = l ++ varB s.size := by simp [putL, h3']
    conv => whnf
    intro h6
    conv => whnf
    have hw : IntKind.i64.wrap (4096 - ((l ++ varB s.size).length : Int)) = 4096 - ((l ++ varB s.size).length : Int) := by simp only [List.length_append]; rw [w64] <;> omega
    refine br2 (fun h4 => ?_) (fun h4 => ?_)
    · conv => whnf
      refine ⟨1, UInt8, encB, encB_len, ?_⟩
      conv => whnf
      refine ⟨⟨rfl, ?_⟩⟩
      replace h4 : decide ((s.size : Int) > IntKind.i64.wrap (4096 - ((putL l s.size).length : Int))) = true := h4
      rw [hL, hw] at h4
      have h : putTB l s = false := by simp [putTB, hT]; simp at h4; omega
      show _ = [[D.row 1 encB (putTL l s)], [D.lf (.bool (putTB l s))]]
      simp [putTL, h]
    · conv => whnf
      replace h4 : decide ((s.size : Int) > IntKind.i64.wrap (4096 - ((putL l s.size).length : Int))) = false := h4
      rw [hL, hw] at h4
      have h : putTB l s = true := by simp [putTB, hT]; simp at h4; omega
      refine ⟨?_, ?_⟩
      · show s.size ≤ 4294967296; omega
      conv => whnf
      refine ⟨flat_encB, bs s, rfl, ?_, ?_⟩
      · show (putL l s.size).length + (bs s).length ≤ 4294967296
        rw [hL, bs_len, List.length_append]; omega
      conv => whnf
      refine ⟨⟨rfl, ?_⟩⟩
      show [[D.row 1 encB (putL l s.size ++ bs s)], _] = [[D.row 1 encB (putTL l s)], [D.lf (.bool (putTB l s))]]
      rw [hL]
      simp [putTL, h, encT, List.append_assoc]
theorem sPutText_ok : FnOk Try.prog 130 cPutText := fnOk_of fun x => fn_at tab_ok (SOk.cons putVar_ok SOk.nil) mixed (fn := Try.f130) (code := body Try.f130) ⟨Try.func130, rfl, by kernel_rfl, by kernel_rfl, by kernel_rfl, by kernel_rfl⟩ (ev_sPutText x)

/-! Numbers read -/
structure GetX where
  l : List UInt8
  a : Int
  hl : l.length ≤ 4294967296
  h1 : -9223372036854775808 ≤ a
  h2 : a ≤ 9223372036854775807
/-- What is read: a number and the place behind it; the number that stands there. -/
def GotN (l : List UInt8) (a n nx : Int) : Prop :=
  (nx = -1 ∧ n = 0 ∨ 0 ≤ n ∧ n ≤ 1099511627775 ∧ 0 ≤ a ∧ a < nx ∧ nx ≤ l.length) ∧
    ∀ (pre : List UInt8) (v : Nat) (post : List UInt8), l = pre ++ varB v ++ post → a = pre.length → v ≤ 1099511627775 → n = v ∧ nx = pre.length + (varB v).length
def cGetVar : Con := relC GetX [(.rd, false), (.rd, false)] [false, false] (fun x => [[.row 1 encB x.l], [.lf (.int .i64 x.a)]]) (fun x r => ∃ n nx : Int, r = [[.lf (.int .i64 n)], [.lf (.int .i64 nx)]] ∧ GotN x.l x.a n nx)

theorem gotN_none {l : List UInt8} {a : Int} (h : a < 0 ∨ (l.length : Int) ≤ a) : GotN l a 0 (-1) := by
  refine ⟨.inl ⟨rfl, rfl⟩, fun pre v post h1 h2 _ => ?_⟩
  have := congrArg List.length h1
  have := varB_pos v
  simp only [List.length_append] at *
  omega

/-- The digits so far: k of them, in sum n; what is left of the number that stands there. -/
structure Dig (l : List UInt8) (a : Nat) (k n : Nat) : Prop where
  lt : n < 128 ^ k
  rest : ∀ (pre : List UInt8) (v : Nat) (post : List UInt8), l = pre ++ varB v ++ post → a = pre.length → v ≤ 1099511627775 →
    ∃ v', l.drop (a + k) = varB v' ++ post ∧ v = n + 128 ^ k * v' ∧ (varB v).length = k + (varB v').length ∧ (1 ≤ k → 1 ≤ v')

theorem Dig.zero (l : List UInt8) (a : Nat) : Dig l a 0 0 := ⟨by simp, fun pre v post h1 h2 _ => ⟨v, by rw [h1, h2]; simp, by simp, by simp, by omega⟩⟩

theorem u8_lt (d : UInt8) : d.toNat < 256 := d.toNat_lt
theorem toNat_of {k : Nat} (h : k < 256) : (UInt8.ofNat k).toNat = k := by simp [UInt8.toNat_ofNat]; omega
theorem head_eq {x d : UInt8} {r : List UInt8} (h : (x :: r)[0]? = some d) : x = d := by simpa only [List.getElem?_cons_zero, Option.some.injEq] using h
theorem Dig.step {l : List UInt8} {a k n : Nat} (h : Dig l a k n) {d : UInt8} (hd : l[a + k]? = some d) (hge : 128 ≤ d.toNat) : Dig l a (k + 1) (n + d.toNat % 128 * 128 ^ k) := by
  refine ⟨?_, fun pre v post h1 h2 h3 => ?_⟩
  · have h4 := h.lt
    have h5 : d.toNat % 128 ≤ 127 := by omega
    have h6 : d.toNat % 128 * 128 ^ k ≤ 127 * 128 ^ k := Nat.mul_le_mul_right _ h5
    rw [Nat.pow_succ]; omega
  · obtain ⟨v', e1, e2, e3, e4⟩ := h.rest pre v post h1 h2 h3
    by_cases hv : v' < 128
    · exfalso
      rw [varB_lt hv] at e1
      have : (l.drop (a + k))[0]? = some d := by simpa using hd
      rw [e1] at this
      have := head_eq this
      subst this
      rw [toNat_of (by omega)] at hge
      omega
    · rw [varB_ge hv] at e1 e3
      have : (l.drop (a + k))[0]? = some d := by simpa using hd
      rw [e1] at this
      have := head_eq this
      subst this
      refine ⟨v' / 128, ?_, ?_, ?_, fun _ => by omega⟩
      · have := congrArg (List.drop 1) e1
        rw [List.drop_drop] at this
        simpa [Nat.add_assoc] using this
      · rw [toNat_of (by omega), e2, Nat.pow_succ]
        have h6 : (v' % 128 + 128) % 128 = v' % 128 := by omega
        rw [h6]
        have h7 : v' = v' % 128 + 128 * (v' / 128) := by omega
        calc n + 128 ^ k * v' = n + 128 ^ k * (v' % 128 + 128 * (v' / 128)) := by rw [← h7]
          _ = n + v' % 128 * 128 ^ k + 128 ^ k * 128 * (v' / 128) := by rw [Nat.mul_add, Nat.mul_comm (128 ^ k) (v' % 128), Nat.mul_assoc, Nat.add_assoc]
      · simp only [List.length_cons] at e3; omega
theorem Dig.last {l : List UInt8} {a k n : Nat} (h : Dig l a k n) {d : UInt8} (hd : l[a + k]? = some d) (hlt : d.toNat < 128) {pre : List UInt8} {v : Nat} {post : List UInt8} (h1 : l = pre ++ varB v ++ post) (h2 : a = pre.length) (h3 : v ≤ 1099511627775) :
    v = n + d.toNat * 128 ^ k ∧ (varB v).length = k + 1 ∧ (1 ≤ k → 1 ≤ d.toNat) := by
  obtain ⟨v', e1, e2, e3, e4⟩ := h.rest pre v post h1 h2 h3
  have h5 : (l.drop (a + k))[0]? = some d := by simpa using hd
  by_cases hv : v' < 128
  · rw [varB_lt hv] at e1 e3
    rw [e1] at h5
    have := head_eq h5
    subst this
    rw [toNat_of (by omega), Nat.mul_comm v']
    exact ⟨e2, e3, e4⟩
  · exfalso
    rw [varB_ge hv] at e1
    rw [e1] at h5
    have := head_eq h5
    subst this
    rw [toNat_of (by omega)] at hlt
    omega
theorem Dig.out {l : List UInt8} {a k n : Nat} (h : Dig l a k n) (hk : l.length ≤ a + k ∨ 6 ≤ k) (h0 : a + k ≤ l.length) : GotN l a 0 (-1) := by
  refine ⟨.inl ⟨rfl, rfl⟩, fun pre v post h1 h2 h3 => ?_⟩
  exfalso
  have h2' : a = pre.length := by omega
  obtain ⟨v', e1, e2, e3, e4⟩ := h.rest pre v post h1 h2' h3
  have h5 := varB_pos v'
  have h6 := varB_len6 h3
  have h7 := congrArg List.length e1
  simp only [List.length_append, List.length_drop] at h7
  omega

theorem pow_le6 {k : Nat} (h : k ≤ 6) : 128 ^ k ≤ 4398046511104 := Nat.le_trans (Nat.pow_le_pow_right (by omega) h) (by decide)
/-- The digits' number has so many digits just if the last one isn't nought. -/
theorem dig_len {n k d : Nat} (hn : n < 128 ^ k) (hd : d < 128) : (varB (n + d * 128 ^ k)).length = k + 1 ↔ (d ≠ 0 ∨ k = 0) := by
  have key : ∀ k n d, n < 128 ^ k → d < 128 → ((varB (n + d * 128 ^ k)).length = k + 1 ↔ (d ≠ 0 ∨ k = 0)) ∧ (varB (n + d * 128 ^ k)).length ≤ k + 1 := by
    intro k
    induction k with
    | zero =>
      intro n d hn hd
      have : n = 0 := by simpa using hn
      subst this
      rw [varB_lt (by omega)]; simp
    | succ k ih =>
      intro n d hn hd
      rw [Nat.pow_succ] at hn
      have h1 : n / 128 < 128 ^ k := Nat.div_lt_of_lt_mul (by omega)
      obtain ⟨i1, i2⟩ := ih (n / 128) d h1 hd
      have hdiv : (n + d * 128 ^ (k + 1)) / 128 = n / 128 + d * 128 ^ k := by
        rw [Nat.pow_succ, ← Nat.mul_assoc, Nat.add_mul_div_right _ _ (by omega : 0 < 128)]
      by_cases hlt : n + d * 128 ^ (k + 1) < 128
      · rw [varB_lt hlt]
        have : d = 0 := by
          rcases Nat.eq_zero_or_pos d with h | h
          · exact h
          · exfalso
            have : 128 ^ (k + 1) ≤ d * 128 ^ (k + 1) := Nat.le_mul_of_pos_left _ h
            have : 128 ≤ 128 ^ (k + 1) := by rw [Nat.pow_succ]; have : 128 ^ 0 ≤ 128 ^ k := Nat.pow_le_pow_right (by omega) (Nat.zero_le k); simp only [Nat.pow_zero] at this; omega
            omega
        subst this
        simp
      · rw [varB_ge hlt, hdiv]
        simp only [List.length_cons]
        constructor
        · rw [show (varB (n / 128 + d * 128 ^ k)).length + 1 = k + 1 + 1 ↔ (varB (n / 128 + d * 128 ^ k)).length = k + 1 by omega, i1]
          constructor
          · rintro (h | h)
            · exact .inl h
            · subst h
              have hn1 : n < 128 := by simpa using hn
              refine .inl fun h0 => hlt (by subst h0; simpa using hn1)
          · rintro (h | h)
            · exact .inl h
            · omega
        · omega
  exact (key k n d hn hd).1
end Go.Vm
namespace Go.Vm
open Go.Proofs
set_option maxRecDepth 100000
set_option linter.unusedVariables false
set_option linter.unusedSimpArgs false

theorem gotN_of {l : List UInt8} {a k n : Nat} (h : Dig l a k n) {d : UInt8} (hd : l[a + k]? = some d) (hlt : d.toNat < 128) (hm : n + d.toNat * 128 ^ k ≤ 1099511627775) : GotN l a ((n + d.toNat * 128 ^ k : Nat) : Int) ((a + k + 1 : Nat) : Int) := by
  have hl : a + k < l.length := (List.getElem?_eq_some_iff.1 hd).1
  refine ⟨.inr ⟨by omega, by omega, by omega, by omega, by omega⟩, fun pre v post h1 h2 h3 => ?_⟩
  obtain ⟨e1, e2, e3⟩ := h.last hd hlt h1 (by omega) h3
  omega
theorem gotN_bad {l : List UInt8} {a k n : Nat} (h : Dig l a k n) {d : UInt8} (hd : l[a + k]? = some d) (hlt : d.toNat < 128) (hm : ¬ n + d.toNat * 128 ^ k ≤ 1099511627775 ∨ (d.toNat = 0 ∧ 1 ≤ k)) : GotN l a 0 (-1) := by
  refine ⟨.inl ⟨rfl, rfl⟩, fun pre v post h1 h2 h3 => ?_⟩
  obtain ⟨e1, e2, e3⟩ := h.last hd hlt h1 (by omega) h3
  omega
theorem dig_bound {l : List UInt8} {a k n : Nat} (h : Dig l a k n) (hk : k ≤ 5) {d : Nat} (hd : d < 256) : 128 ^ k ≤ 34359738368 ∧ n < 34359738368 ∧ d % 128 * 128 ^ k ≤ 127 * 34359738368 := by
  have h1 : 128 ^ k ≤ 34359738368 := Nat.le_trans (Nat.pow_le_pow_right (by omega) hk) (by decide)
  have h2 := h.lt
  have h3 : d % 128 * 128 ^ k ≤ 127 * 34359738368 := Nat.mul_le_mul (by omega) h1
  exact ⟨h1, by omega, h3⟩

theorem ev_sGetVar : ∀ x, evFn tab [(159, cPutVar)] cGetVar Try.f129 (body Try.f129) x := by
  rintro ⟨l, a, hl, h1, h2⟩
  conv => whnf
  refine br2 (fun h3 => ?_) (fun h3 => ?_)
  · conv => whnf
    refine ⟨⟨rfl, 0, -1, rfl, gotN_none (.inl (by simpa using h3))⟩⟩
  conv => whnf
  intro h4
  conv => whnf
  refine br2 (fun h5 => ?_) (fun h5 => ?_)
  · conv => whnf
    refine ⟨⟨rfl, 0, -1, rfl, gotN_none (.inr (by simpa using h5))⟩⟩
  have h3' : 0 ≤ a := by simpa using h3
  have h5' : a < l.length := by simpa using h5
  obtain ⟨a, rfl⟩ : ∃ k : Nat, a = k := ⟨a.toNat, by omega⟩
  conv => whnf
  refine ⟨fun m s h => ∃ k n : Nat, Dig l a k n ∧ a + k ≤ l.length ∧ k ≤ 6 ∧ m = 6 - k ∧ s = [(0, .sl 0 none), (1, .lf (.int .i64 a)), (6, .lf (.int .i64 n)), (7, .lf (.int .i64 ((128 ^ k : Nat) : Int))), (8, .lf (.int .i64 ((a + k : Nat) : Int)))] ∧ h = [(0, some (.row .lent 1 encB l))],
    6, [(0, 0)], [(0, .sl 0 none), (1, .lf (.int .i64 a)), (6, .lf (.int .i64 0)), (7, .lf (.int .i64 1)), (8, .lf (.int .i64 a))], [(0, some (.row .lent 1 encB l))], ⟨rfl, ⟨rfl, rfl, rfl, rfl, rfl, trivial⟩, ⟨rfl, trivial⟩⟩, ⟨0, 0, Dig.zero l a, by omega, by omega, rfl, rfl, rfl⟩, ?_⟩
  rintro m _ _ ⟨k, n, hD, hk1, hk2, rfl, rfl, rfl⟩
  conv => whnf
  intro _
  conv => whnf
  refine br2 (fun g1 => ?_) (fun g1 => ?_)
  · conv => whnf
    refine br2 (fun g2 => ?_) (fun g2 => ?_)
    · have hk : a + k < l.length := by simp at g1; omega
      have hk5 : k ≤ 5 := by rw [w64] at g2 <;> first | omega | (simp at g2; omega)
      obtain ⟨d, hd⟩ : ∃ d, l[a + k]? = some d := ⟨_, List.getElem?_eq_getElem hk⟩
      have hd2 : nth l ((a + k : Nat) : Int).toNat = some d := by rw [nth_eq, Int.toNat_natCast]; exact hd
      have hd8 := u8_lt d
      obtain ⟨b1, b2, b3⟩ := dig_bound hD hk5 hd8
      have p1 : (0 : Int) ≤ ((128 ^ k : Nat) : Int) := Int.natCast_nonneg _
      have p2 : ((128 ^ k : Nat) : Int) ≤ 34359738368 := Int.ofNat_le.2 b1
      have hn1 : IntKind.i64.wrap ((n : Int) + IntKind.i64.wrap (((IntKind.i64.wrap (d.toNat : Int)).tmod 128) * ((128 ^ k : Nat) : Int))) = ((n + d.toNat % 128 * 128 ^ k : Nat) : Int) := by
        rw [w64 (n := (d.toNat : Int)) (by omega) (by omega), tmod128, ← Int.natCast_mul, w64 (n := ((d.toNat % 128 * 128 ^ k : Nat) : Int)) (by omega) (by omega), ← Int.natCast_add, w64 (by omega) (by omega)]
      conv => whnf
      refine ⟨by omega, by omega, ?_⟩
      conv => whnf
      refine ex2 d hd2 ?_
      conv => whnf
      refine ⟨by omega, by omega, ?_⟩
      conv => whnf
      refine ex2 d hd2 ?_
      conv => whnf
      refine br2 (fun g3 => ?_) (fun g3 => ?_)
      · have g3' : 128 ≤ d.toNat := by simp at g3; omega
        conv => whnf
        refine ⟨6 - (k + 1), [(0, 0)], [(0, .sl 0 none), (1, .lf (.int .i64 a)), (6, .lf (.int .i64 ((n + d.toNat % 128 * 128 ^ k : Nat) : Int))), (7, .lf (.int .i64 ((128 ^ (k + 1) : Nat) : Int))), (8, .lf (.int .i64 ((a + (k + 1) : Nat) : Int)))], [(0, some (.row .lent 1 encB l))], by omega, ⟨rfl, ⟨rfl, rfl, ?_, ?_, ?_, trivial⟩, ⟨rfl, trivial⟩⟩, k + 1, _, hD.step hd g3', by omega, by omega, rfl, rfl, rfl⟩
        · show V.lf (.int .i64 (IntKind.i64.wrap ((n : Int) + IntKind.i64.wrap (((IntKind.i64.wrap (d.toNat : Int)).tmod 128) * ((128 ^ k : Nat) : Int))))) = _
          rw [hn1]
        · show V.lf (.int .i64 (IntKind.i64.wrap (((128 ^ k : Nat) : Int) * 128))) = _
          rw [w64 (by omega) (by omega), Nat.pow_succ]; rfl
        · show V.lf (.int .i64 (IntKind.i64.wrap (((a + k : Nat) : Int) + 1))) = _
          rw [w64 (by omega) (by omega)]; rfl
      · have g3' : d.toNat < 128 := by simp at g3; omega
        have hm : d.toNat % 128 = d.toNat := Nat.mod_eq_of_lt g3'
        rw [hm] at hn1 b3
        conv => whnf
        refine ⟨1, UInt8, encB, encB_len, ?_⟩
        conv => whnf
        refine ⟨⟨[], ((n + d.toNat * 128 ^ k : Nat) : Int), by simp, by omega, by omega⟩, ?_, ?_⟩
        · show [[D.row 1 encB []], [D.lf (.int .i64 _)]] = [[D.row 1 encB []], [D.lf (.int .i64 _)]]
          rw [hn1]
        rintro _ _ ⟨rfl, rfl⟩
        have hN : numB ((n + d.toNat * 128 ^ k : Nat) : Int) = decide (n + d.toNat * 128 ^ k ≤ 1099511627775) := by
          simp only [numB]
          rw [show decide ((0 : Int) ≤ ((n + d.toNat * 128 ^ k : Nat) : Int)) = true from decide_eq_true (by omega), Bool.true_and]
          exact decide_eq_decide.2 (by omega)
        have hlen := dig_len hD.lt g3'
        have hle : (varB (n + d.toNat * 128 ^ k)).length ≤ 10 := varB_len (by omega)
        have hP : putB [] ((n + d.toNat * 128 ^ k : Nat) : Int) = decide (n + d.toNat * 128 ^ k ≤ 1099511627775) := by
          unfold putB
          rw [hN, Int.toNat_natCast, show decide (([] : List UInt8).length + (varB (n + d.toNat * 128 ^ k)).length ≤ 4096) = true from decide_eq_true (by simp; omega), Bool.and_true]
        conv => whnf
        refine br2 (fun g4 => ?_) (fun g4 => ?_)
        · conv => whnf
          replace g4 : (!putB [] ((n + d.toNat * 128 ^ k : Nat) : Int)) = true := g4
          rw [hP] at g4
          refine ⟨⟨rfl, 0, -1, rfl, gotN_bad hD hd g3' (.inl (by simpa using g4))⟩⟩
        · replace g4 : (!putB [] ((n + d.toNat * 128 ^ k : Nat) : Int)) = false := g4
          rw [hP] at g4
          have g4' : n + d.toNat * 128 ^ k ≤ 1099511627775 := by simpa using g4
          have hL : putL [] ((n + d.toNat * 128 ^ k : Nat) : Int) = varB (n + d.toNat * 128 ^ k) := by unfold putL; rw [if_pos (by rw [hP]; exact decide_eq_true g4'), Int.toNat_natCast]; rfl
          have hi : IntKind.i64.wrap (((a + k : Nat) : Int) + 1) = ((a + k + 1 : Nat) : Int) := by rw [w64 (by omega) (by omega)]; rfl
          have hw : IntKind.i64.wrap (IntKind.i64.wrap (((a + k : Nat) : Int) + 1) - (a : Int)) = ((k + 1 : Nat) : Int) := by rw [hi, w64 (by omega) (by omega)]; omega
          conv => whnf
          intro _
          conv => whnf
          refine br2 (fun g5 => ?_) (fun g5 => ?_)
          · replace g5 : (((putL [] ((n + d.toNat * 128 ^ k : Nat) : Int)).length : Int) != IntKind.i64.wrap (IntKind.i64.wrap (((a + k : Nat) : Int) + 1) - (a : Int))) = true := g5
            rw [hL, hw] at g5
            have g5' : (varB (n + d.toNat * 128 ^ k)).length ≠ k + 1 := by intro h; rw [h] at g5; simp at g5
            conv => whnf
            refine ⟨⟨rfl, 0, -1, rfl, gotN_bad hD hd g3' (.inr ?_)⟩⟩
            rw [Ne, hlen] at g5'
            omega
          · conv => whnf
            refine ⟨⟨rfl, _, _, ?_, gotN_of hD hd g3' g4'⟩⟩
            show [[D.lf (.int .i64 (IntKind.i64.wrap ((n : Int) + IntKind.i64.wrap (((IntKind.i64.wrap (d.toNat : Int)).tmod 128) * ((128 ^ k : Nat) : Int)))))], [D.lf (.int .i64 (IntKind.i64.wrap (((a + k : Nat) : Int) + 1)))]] = _
            rw [hn1, hi]
    · conv => whnf
      refine ⟨⟨rfl, 0, -1, rfl, hD.out (.inr ?_) hk1⟩⟩
      rw [w64 (by omega) (by omega)] at g2
      simp at g2; omega
  · conv => whnf
    refine ⟨⟨rfl, 0, -1, rfl, hD.out (.inl ?_) hk1⟩⟩
    simp at g1; omega
theorem sGetVar_ok : FnOk Try.prog 129 cGetVar := fnOk_of fun x => fn_at tab_ok (SOk.cons putVar_ok SOk.nil) mixed (fn := Try.f129) (code := body Try.f129) ⟨Try.func129, rfl, by kernel_rfl, by kernel_rfl, by kernel_rfl, by kernel_rfl⟩ (ev_sGetVar x)
end Go.Vm
namespace Go.Vm
open Go.Proofs
set_option maxRecDepth 100000
set_option linter.unusedVariables false
set_option linter.unusedSimpArgs false

theorem ev_iGetVar : ∀ x, evFn tab [] cGetVar Try.f160 (body Try.f160) x := by
  rintro ⟨l, a, hl, h1, h2⟩
  conv => whnf
  refine br2 (fun h3 => ?_) (fun h3 => ?_)
  · conv => whnf
    refine ⟨⟨rfl, 0, -1, rfl, gotN_none (.inl (by simpa using h3))⟩⟩
  have h3' : 0 ≤ a := by simpa using h3
  obtain ⟨a, rfl⟩ : ∃ k : Nat, a = k := ⟨a.toNat, by omega⟩
  conv => whnf
  refine ⟨fun m s h => ∃ k n : Nat, Dig l a k n ∧ (a + k ≤ l.length ∨ k = 0) ∧ k ≤ 6 ∧ m = 6 - k ∧ s = [(0, .sl 0 none), (1, .lf (.int .i64 a)), (6, .lf (.int .i64 n)), (7, .lf (.int .i64 ((128 ^ k : Nat) : Int))), (8, .lf (.int .i64 ((a + k : Nat) : Int)))] ∧ h = [(0, some (.row .lent 1 encB l))],
    6, [(0, 0)], [(0, .sl 0 none), (1, .lf (.int .i64 a)), (6, .lf (.int .i64 0)), (7, .lf (.int .i64 1)), (8, .lf (.int .i64 a))], [(0, some (.row .lent 1 encB l))], ⟨rfl, ⟨rfl, rfl, rfl, rfl, rfl, trivial⟩, ⟨rfl, trivial⟩⟩, ⟨0, 0, Dig.zero l a, by omega, by omega, rfl, rfl, rfl⟩, ?_⟩
  rintro m _ _ ⟨k, n, hD, hk1, hk2, rfl, rfl, rfl⟩
  conv => whnf
  intro _
  conv => whnf
  refine br2 (fun g1 => ?_) (fun g1 => ?_)
  · have hk : a + k < l.length := by simp at g1; omega
    have hw : IntKind.i64.wrap (((a + k : Nat) : Int) - (a : Int)) = (k : Int) := by rw [w64 (by omega) (by omega)]; omega
    conv => whnf
    refine br2 (fun g2 => ?_) (fun g2 => ?_)
    · have hk5 : k ≤ 5 := by rw [hw] at g2; simp at g2; omega
      obtain ⟨d, hd⟩ : ∃ d, l[a + k]? = some d := ⟨_, List.getElem?_eq_getElem hk⟩
      have hd2 : nth l ((a + k : Nat) : Int).toNat = some d := by rw [nth_eq, Int.toNat_natCast]; exact hd
      have hd8 := u8_lt d
      obtain ⟨b1, b2, b3⟩ := dig_bound hD hk5 hd8
      have p1 : (0 : Int) ≤ ((128 ^ k : Nat) : Int) := Int.natCast_nonneg _
      have p2 : ((128 ^ k : Nat) : Int) ≤ 34359738368 := Int.ofNat_le.2 b1
      have hdw : IntKind.i64.wrap (d.toNat : Int) = (d.toNat : Int) := w64 (by omega) (by omega)
      have hn1 : IntKind.i64.wrap ((n : Int) + IntKind.i64.wrap (((IntKind.i64.wrap (d.toNat : Int)).tmod 128) * ((128 ^ k : Nat) : Int))) = ((n + d.toNat % 128 * 128 ^ k : Nat) : Int) := by
        rw [hdw, tmod128, ← Int.natCast_mul, w64 (n := ((d.toNat % 128 * 128 ^ k : Nat) : Int)) (by omega) (by omega), ← Int.natCast_add, w64 (by omega) (by omega)]
      have hi : IntKind.i64.wrap (((a + k : Nat) : Int) + 1) = ((a + k + 1 : Nat) : Int) := by rw [w64 (by omega) (by omega)]; rfl
      conv => whnf
      refine ⟨by omega, by omega, ?_⟩
      conv => whnf
      refine ex2 d hd2 ?_
      conv => whnf
      refine br2 (fun g3 => ?_) (fun g3 => ?_)
      · have g3' : 128 ≤ d.toNat := by rw [hdw] at g3; simp at g3; omega
        conv => whnf
        refine ⟨6 - (k + 1), [(0, 0)], [(0, .sl 0 none), (1, .lf (.int .i64 a)), (6, .lf (.int .i64 ((n + d.toNat % 128 * 128 ^ k : Nat) : Int))), (7, .lf (.int .i64 ((128 ^ (k + 1) : Nat) : Int))), (8, .lf (.int .i64 ((a + (k + 1) : Nat) : Int)))], [(0, some (.row .lent 1 encB l))], by omega, ⟨rfl, ⟨rfl, rfl, ?_, ?_, ?_, trivial⟩, ⟨rfl, trivial⟩⟩, k + 1, _, hD.step hd g3', by omega, by omega, rfl, rfl, rfl⟩
        · show V.lf (.int .i64 (IntKind.i64.wrap ((n : Int) + IntKind.i64.wrap (((IntKind.i64.wrap (d.toNat : Int)).tmod 128) * ((128 ^ k : Nat) : Int))))) = _
          rw [hn1]
        · show V.lf (.int .i64 (IntKind.i64.wrap (((128 ^ k : Nat) : Int) * 128))) = _
          rw [w64 (by omega) (by omega), Nat.pow_succ]; rfl
        · show V.lf (.int .i64 (IntKind.i64.wrap (((a + k : Nat) : Int) + 1))) = _
          rw [hi]; rfl
      · have g3' : d.toNat < 128 := by rw [hdw] at g3; simp at g3; omega
        have hm : d.toNat % 128 = d.toNat := Nat.mod_eq_of_lt g3'
        rw [hm] at hn1 b3
        conv => whnf
        refine br2 (fun g4 => ?_) (fun g4 => ?_)
        · replace g4 : decide (IntKind.i64.wrap ((n : Int) + IntKind.i64.wrap (((IntKind.i64.wrap (d.toNat : Int)).tmod 128) * ((128 ^ k : Nat) : Int))) > 1099511627775) = true := g4
          rw [hn1] at g4
          conv => whnf
          exact ⟨⟨rfl, 0, -1, rfl, gotN_bad hD hd g3' (.inl (by have := of_decide_eq_true g4; omega))⟩⟩
        · replace g4 : decide (IntKind.i64.wrap ((n : Int) + IntKind.i64.wrap (((IntKind.i64.wrap (d.toNat : Int)).tmod 128) * ((128 ^ k : Nat) : Int))) > 1099511627775) = false := g4
          rw [hn1] at g4
          have g4' : n + d.toNat * 128 ^ k ≤ 1099511627775 := by have := of_decide_eq_false g4; omega
          have done : GotN l a ((n + d.toNat * 128 ^ k : Nat) : Int) ((a + k + 1 : Nat) : Int) := gotN_of hD hd g3' g4'
          conv => whnf
          refine br2 (fun g5 => ?_) (fun g5 => ?_)
          · replace g5 : (IntKind.i64.wrap (d.toNat : Int) == 0) = true := g5
            rw [hdw] at g5
            have g5' : d.toNat = 0 := by have := eq_of_beq g5; omega
            conv => whnf
            refine br2 (fun g6 => ?_) (fun g6 => ?_)
            · conv => whnf
              exact ⟨⟨rfl, 0, -1, rfl, gotN_bad hD hd g3' (.inr ⟨g5', by have := of_decide_eq_true g6; omega⟩)⟩⟩
            · conv => whnf
              refine ⟨⟨rfl, _, _, ?_, done⟩⟩
              show [[D.lf (.int .i64 (IntKind.i64.wrap ((n : Int) + IntKind.i64.wrap (((IntKind.i64.wrap (d.toNat : Int)).tmod 128) * ((128 ^ k : Nat) : Int)))))], [D.lf (.int .i64 (IntKind.i64.wrap (((a + k : Nat) : Int) + 1)))]] = _
              rw [hn1, hi]
          · conv => whnf
            refine ⟨⟨rfl, _, _, ?_, done⟩⟩
            show [[D.lf (.int .i64 (IntKind.i64.wrap ((n : Int) + IntKind.i64.wrap (((IntKind.i64.wrap (d.toNat : Int)).tmod 128) * ((128 ^ k : Nat) : Int)))))], [D.lf (.int .i64 (IntKind.i64.wrap (((a + k : Nat) : Int) + 1)))]] = _
            rw [hn1, hi]
    · conv => whnf
      refine ⟨⟨rfl, 0, -1, rfl, hD.out (.inr ?_) (by omega)⟩⟩
      rw [hw] at g2
      simp at g2; omega
  · conv => whnf
    have g1' : l.length ≤ a + k := by simp at g1; omega
    rcases hk1 with hk1 | hk1
    · exact ⟨⟨rfl, 0, -1, rfl, hD.out (.inl g1') hk1⟩⟩
    · exact ⟨⟨rfl, 0, -1, rfl, (show GotN l a 0 (-1) from gotN_none (.inr (by omega)))⟩⟩
theorem iGetVar_ok : FnOk Try.prog 160 cGetVar := fnOk_of fun x => fn_at tab_ok (SOk.nil) mixed (fn := Try.f160) (code := body Try.f160) ⟨Try.func160, rfl, by kernel_rfl, by kernel_rfl, by kernel_rfl, by kernel_rfl⟩ (ev_iGetVar x)

/-- What is read: a text and the place behind it; the text that stands there. -/
def GotT (l : List UInt8) (a : Int) (t : ByteArray) (nx : Int) : Prop :=
  (nx = -1 ∧ t = ⟨#[]⟩ ∨ 0 ≤ a ∧ a < nx ∧ nx ≤ l.length ∧ t.size ≤ l.length) ∧
    ∀ (pre : List UInt8) (u : ByteArray) (post : List UInt8), l = pre ++ encT u ++ post → a = pre.length → u.size ≤ 1099511627775 → t = u ∧ nx = pre.length + (encT u).length
def cGetText : Con := relC GetX [(.rd, false), (.rd, false)] [false, false] (fun x => [[.row 1 encB x.l], [.lf (.int .i64 x.a)]]) (fun x r => ∃ (t : ByteArray) (nx : Int), r = [[.lf (.string t)], [.lf (.int .i64 nx)]] ∧ GotT x.l x.a t nx)

theorem gotT_none {l : List UInt8} {a n nx : Int} (h : GotN l a n nx) (hb : nx < 0 ∨ (l.length : Int) - nx < n) : GotT l a ⟨#[]⟩ (-1) := by
  refine ⟨.inl ⟨rfl, rfl⟩, fun pre u post h1 h2 h3 => ?_⟩
  obtain ⟨e1, e2⟩ := h.2 pre u.size (bs u ++ post) (by rw [h1]; simp [encT]) h2 h3
  have := congrArg List.length h1
  simp only [List.length_append, encT, bs_len] at this
  omega
theorem gotT_of {l : List UInt8} {a : Int} {n nx : Nat} (h : GotN l a n nx) (hb : nx + n ≤ l.length) : GotT l a (ofB ((l.drop nx).take n)) ((nx + n : Nat) : Int) := by
  have h0 := h.1
  refine ⟨.inr ⟨by omega, by omega, by omega, by rw [of_size, List.length_take, List.length_drop]; omega⟩, fun pre u post h1 h2 h3 => ?_⟩
  obtain ⟨e1, e2⟩ := h.2 pre u.size (bs u ++ post) (by rw [h1]; simp [encT]) h2 h3
  have hn : n = u.size := by omega
  have hnx : nx = pre.length + (varB u.size).length := by omega
  refine ⟨?_, by simp only [encT, List.length_append, bs_len]; omega⟩
  have : (l.drop nx).take n = bs u := by
    rw [h1, hnx, hn, ← List.length_append]
    have : pre ++ encT u ++ post = (pre ++ varB u.size) ++ (bs u ++ post) := by simp [encT]
    rw [this, List.drop_left, ← bs_len, List.take_left]
  rw [this, of_bs]

theorem ev_sGetText : ∀ x, evFn tab [(129, cGetVar)] cGetText Try.f77 (body Try.f77) x := by
  rintro ⟨l, a, hl, h1, h2⟩
  conv => whnf
  refine ⟨⟨l, a, hl, h1, h2⟩, rfl, ?_⟩
  rintro _ _ ⟨rfl, n, nx, rfl, hG⟩
  have hG0 : nx = -1 ∧ n = 0 ∨ 0 ≤ n ∧ n ≤ 1099511627775 ∧ 0 ≤ a ∧ a < nx ∧ nx ≤ l.length := hG.1
  conv => whnf
  refine br2 (fun h3 => ?_) (fun h3 => ?_)
  · conv => whnf
    exact ⟨⟨rfl, ⟨#[]⟩, -1, rfl, gotT_none hG (.inl (of_decide_eq_true h3))⟩⟩
  have h3' : 0 ≤ nx := by have := of_decide_eq_false h3; omega
  conv => whnf
  intro _
  have hw : IntKind.i64.wrap ((l.length : Int) - nx) = (l.length : Int) - nx := w64 (by omega) (by omega)
  conv => whnf
  refine br2 (fun h4 => ?_) (fun h4 => ?_)
  · replace h4 : decide (n > IntKind.i64.wrap ((l.length : Int) - nx)) = true := h4
    rw [hw] at h4
    conv => whnf
    exact ⟨⟨rfl, ⟨#[]⟩, -1, rfl, gotT_none hG (.inr (by have := of_decide_eq_true h4; omega))⟩⟩
  replace h4 : decide (n > IntKind.i64.wrap ((l.length : Int) - nx)) = false := h4
  rw [hw] at h4
  have h4' : nx + n ≤ l.length := by have := of_decide_eq_false h4; omega
  have hw2 : IntKind.i64.wrap (nx + n) = nx + n := w64 (by omega) (by omega)
  obtain ⟨n, rfl⟩ : ∃ k : Nat, n = k := ⟨n.toNat, by omega⟩
  obtain ⟨nx, rfl⟩ : ∃ k : Nat, nx = k := ⟨nx.toNat, by omega⟩
  conv => whnf
  refine ⟨Int.natCast_nonneg _, by rw [hw2]; omega, by rw [hw2]; exact h4', ?_⟩
  conv => whnf
  refine ⟨(l.drop nx).take n, ?_, ?_⟩
  · show List.map encB ((l.drop (nx : Int).toNat).take (IntKind.i64.wrap ((nx : Int) + n) - nx).toNat) = _
    rw [hw2, Int.toNat_natCast, show ((nx : Int) + n - nx).toNat = n by omega]
  conv => whnf
  refine ⟨⟨rfl, _, _, ?_, gotT_of hG (show nx + n ≤ l.length by omega)⟩⟩
  show [[D.lf (.string _)], [D.lf (.int .i64 (IntKind.i64.wrap ((nx : Int) + n)))]] = _
  rw [hw2]; rfl
theorem sGetText_ok : FnOk Try.prog 77 cGetText := fnOk_of fun x => fn_at tab_ok (SOk.cons sGetVar_ok SOk.nil) mixed (fn := Try.f77) (code := body Try.f77) ⟨Try.func77, rfl, by kernel_rfl, by kernel_rfl, by kernel_rfl, by kernel_rfl⟩ (ev_sGetText x)
theorem ev_iGetText : ∀ x, evFn tab [(160, cGetVar)] cGetText Try.f131 (body Try.f131) x := by
  rintro ⟨l, a, hl, h1, h2⟩
  conv => whnf
  refine ⟨⟨l, a, hl, h1, h2⟩, rfl, ?_⟩
  rintro _ _ ⟨rfl, n, nx, rfl, hG⟩
  have hG0 : nx = -1 ∧ n = 0 ∨ 0 ≤ n ∧ n ≤ 1099511627775 ∧ 0 ≤ a ∧ a < nx ∧ nx ≤ l.length := hG.1
  conv => whnf
  refine br2 (fun h3 => ?_) (fun h3 => ?_)
  · conv => whnf
    exact ⟨⟨rfl, ⟨#[]⟩, -1, rfl, gotT_none hG (.inl (of_decide_eq_true h3))⟩⟩
  have h3' : 0 ≤ nx := by have := of_decide_eq_false h3; omega
  conv => whnf
  intro _
  have hw : IntKind.i64.wrap ((l.length : Int) - nx) = (l.length : Int) - nx := w64 (by omega) (by omega)
  conv => whnf
  refine br2 (fun h4 => ?_) (fun h4 => ?_)
  · replace h4 : decide (n > IntKind.i64.wrap ((l.length : Int) - nx)) = true := h4
    rw [hw] at h4
    conv => whnf
    exact ⟨⟨rfl, ⟨#[]⟩, -1, rfl, gotT_none hG (.inr (by have := of_decide_eq_true h4; omega))⟩⟩
  replace h4 : decide (n > IntKind.i64.wrap ((l.length : Int) - nx)) = false := h4
  rw [hw] at h4
  have h4' : nx + n ≤ l.length := by have := of_decide_eq_false h4; omega
  have hw2 : IntKind.i64.wrap (nx + n) = nx + n := w64 (by omega) (by omega)
  obtain ⟨n, rfl⟩ : ∃ k : Nat, n = k := ⟨n.toNat, by omega⟩
  obtain ⟨nx, rfl⟩ : ∃ k : Nat, nx = k := ⟨nx.toNat, by omega⟩
  conv => whnf
  refine ⟨Int.natCast_nonneg _, by rw [hw2]; omega, by rw [hw2]; exact h4', ?_⟩
  conv => whnf
  refine ⟨(l.drop nx).take n, ?_, ?_⟩
  · show List.map encB ((l.drop (nx : Int).toNat).take (IntKind.i64.wrap ((nx : Int) + n) - nx).toNat) = _
    rw [hw2, Int.toNat_natCast, show ((nx : Int) + n - nx).toNat = n by omega]
  conv => whnf
  refine ⟨⟨rfl, _, _, ?_, gotT_of hG (show nx + n ≤ l.length by omega)⟩⟩
  show [[D.lf (.string _)], [D.lf (.int .i64 (IntKind.i64.wrap ((nx : Int) + n)))]] = _
  rw [hw2]; rfl
theorem iGetText_ok : FnOk Try.prog 131 cGetText := fnOk_of fun x => fn_at tab_ok (SOk.cons iGetVar_ok SOk.nil) mixed (fn := Try.f131) (code := body Try.f131) ⟨Try.func131, rfl, by kernel_rfl, by kernel_rfl, by kernel_rfl, by kernel_rfl⟩ (ev_iGetText x)
end Go.Vm
namespace Go.Vm
open Go.Proofs
set_option maxRecDepth 100000
set_option linter.unusedVariables false
set_option linter.unusedSimpArgs false

/-! The order of texts -/
theorem bl_flip : ∀ a b : List UInt8, Op.bytesLess b a = !(Op.bytesLess a b || a == b)
  | [], [] => rfl
  | [], _ :: _ => by simp [Op.bytesLess]
  | _ :: _, [] => by simp [Op.bytesLess]
  | a :: x, b :: y => by
    have ih := bl_flip x y
    simp only [Op.bytesLess]
    rcases Nat.lt_trichotomy a.toNat b.toNat with h | h | h
    · have h1 : a < b := UInt8.lt_iff_toNat_lt.mpr h
      have h2 : ¬ b < a := fun e => by have := UInt8.lt_iff_toNat_lt.mp e; omega
      have h3 : a ≠ b := fun e => by subst e; omega
      simp [h1, h2, h3, Ne.symm h3]
    · have h1 : a = b := UInt8.toNat_inj.mp h
      subst h1
      have h2 : ¬ a < a := fun e => by have := UInt8.lt_iff_toNat_lt.mp e; omega
      simp only [h2, decide_false, Bool.false_or, beq_self_eq_true, Bool.true_and, ih, List.cons_beq_cons]
    · have h1 : b < a := UInt8.lt_iff_toNat_lt.mpr h
      have h2 : ¬ a < b := fun e => by have := UInt8.lt_iff_toNat_lt.mp e; omega
      have h3 : a ≠ b := fun e => by subst e; omega
      simp [h1, h2, h3]
theorem toList_inj {a b : ByteArray} (h : a.toList = b.toList) : a = b := by
  rw [ByteArray.toList_eq, ByteArray.toList_eq] at h
  obtain ⟨⟨x⟩⟩ := a
  obtain ⟨⟨y⟩⟩ := b
  simpa using h
theorem strEq_iff {a b : ByteArray} : strEq a b = true ↔ a = b := by
  unfold strEq
  rw [beq_iff_eq]
  exact ⟨toList_inj, fun h => by rw [h]⟩
theorem strEq_no {a b : ByteArray} : strEq a b = false ↔ a ≠ b := by
  rw [Ne, ← strEq_iff]; cases strEq a b <;> simp
theorem strEq_refl (a : ByteArray) : strEq a a = true := strEq_iff.2 rfl
theorem strEq_comm (a b : ByteArray) : strEq a b = strEq b a := by
  cases h : strEq a b with
  | true => rw [strEq_iff.1 h, strEq_refl]
  | false => exact (strEq_no.2 (Ne.symm (strEq_no.1 h))).symm
theorem strLt_flip (a b : ByteArray) : strLt b a = !(strLt a b || strEq a b) := bl_flip _ _
theorem strLt_gtr (a b : ByteArray) : (!(strLt b a || strEq b a)) = strLt a b := (strLt_flip b a).symm

def emp (s : ByteArray) : Bool := strEq s ⟨#[]⟩
theorem emp_iff {s : ByteArray} : emp s = true ↔ s = ⟨#[]⟩ := strEq_iff
theorem emp_no {s : ByteArray} : emp s = false ↔ s ≠ ⟨#[]⟩ := strEq_no

def userOkB (s : ByteArray) : Bool := decide (1 ≤ s.size) && decide (s.size ≤ 8)
def uvalOkB (s : ByteArray) : Bool := decide (s.size ≤ 20)
def keyOkB (s : ByteArray) : Bool := decide (1 ≤ s.size) && decide (s.size ≤ 16)
def rangeOkB (a b : ByteArray) : Bool := decide (a.size ≤ 17) && decide (b.size ≤ 17) && (emp b || strLt a b)
def reachOkB (a b : ByteArray) : Bool := rangeOkB a b && decide (a.size ≤ 9) && decide (b.size ≤ 9)

/-- A test of one text; of two in a struct. -/
def cS1 (f : ByteArray → Bool) : Con := pureC ByteArray [(.rd, false)] [false] (fun k => [[.lf (.string k)]]) (fun k => [[.lf (.bool (f k))]])
def cS2 (f : ByteArray → ByteArray → Bool) : Con := pureC (ByteArray × ByteArray) [(.rd, true)] [false] (fun k => [[.lf (.string k.1), .lf (.string k.2)]]) (fun k => [[.lf (.bool (f k.1 k.2))]])
def cUserOk : Con := cS1 userOkB
def cUvalOk : Con := cS1 uvalOkB
def cKeyOk : Con := cS1 keyOkB
def cRangeOk : Con := cS2 rangeOkB
def cReachOk : Con := cS2 reachOkB
structure WithinX where
  a : Int
  b : Int
  c : Int
def cWithin : Con := pureC WithinX [(.rd, false), (.rd, false), (.rd, false)] [false] (fun x => [[.lf (.int .i64 x.a)], [.lf (.int .i64 x.b)], [.lf (.int .i64 x.c)]]) (fun x => [[.lf (.bool (decide (x.b ≤ x.a) && decide (x.a ≤ x.c)))]])

theorem ev_sUserOk : ∀ x, evFn tab [] cUserOk Try.f99 (body Try.f99) x := by
  intro k
  repeat' ((conv => whnf); refine br2 (fun h => ?_) (fun h => ?_))
  all_goals (conv => whnf)
  all_goals refine ⟨⟨rfl, ?_⟩⟩
  · show _ = [[D.lf (.bool (userOkB k))]]
    have h1 := of_decide_eq_true h
    unfold userOkB
    rw [show decide (1 ≤ k.size) = true from decide_eq_true (by omega), Bool.true_and]
    congr 4
    exact decide_eq_decide.2 (by omega)
  · show _ = [[D.lf (.bool (userOkB k))]]
    have h1 := of_decide_eq_false h
    unfold userOkB
    rw [show decide (1 ≤ k.size) = false from decide_eq_false (by omega), Bool.false_and]
theorem sUserOk_ok : FnOk Try.prog 99 cUserOk := fnOk_of fun x => fn_at tab_ok (SOk.nil) mixed (fn := Try.f99) (code := body Try.f99) ⟨Try.func99, rfl, by kernel_rfl, by kernel_rfl, by kernel_rfl, by kernel_rfl⟩ (ev_sUserOk x)
theorem ev_sUvalOk : ∀ x, evFn tab [] cUvalOk Try.f100 (body Try.f100) x := by
  intro k
  conv => whnf
  refine ⟨⟨rfl, ?_⟩⟩
  show _ = [[D.lf (.bool (uvalOkB k))]]
  unfold uvalOkB
  congr 4
  exact decide_eq_decide.2 (by omega)
theorem sUvalOk_ok : FnOk Try.prog 100 cUvalOk := fnOk_of fun x => fn_at tab_ok (SOk.nil) mixed (fn := Try.f100) (code := body Try.f100) ⟨Try.func100, rfl, by kernel_rfl, by kernel_rfl, by kernel_rfl, by kernel_rfl⟩ (ev_sUvalOk x)
theorem ev_iUvalOk : ∀ x, evFn tab [] cUvalOk Try.f127 (body Try.f127) x := by
  intro k
  conv => whnf
  refine ⟨⟨rfl, ?_⟩⟩
  show _ = [[D.lf (.bool (uvalOkB k))]]
  unfold uvalOkB
  congr 4
  exact decide_eq_decide.2 (by omega)
theorem iUvalOk_ok : FnOk Try.prog 127 cUvalOk := fnOk_of fun x => fn_at tab_ok (SOk.nil) mixed (fn := Try.f127) (code := body Try.f127) ⟨Try.func127, rfl, by kernel_rfl, by kernel_rfl, by kernel_rfl, by kernel_rfl⟩ (ev_iUvalOk x)
theorem ev_within : ∀ x, evFn tab [] cWithin Try.f93 (body Try.f93) x := by
  rintro ⟨a, b, c⟩
  repeat' ((conv => whnf); refine br2 (fun h => ?_) (fun h => ?_))
  all_goals (conv => whnf)
  all_goals refine ⟨⟨rfl, ?_⟩⟩
  · show _ = [[D.lf (.bool (decide (b ≤ a) && decide (a ≤ c)))]]
    rw [show decide (b ≤ a) = true from h, Bool.true_and]
  · show _ = [[D.lf (.bool (decide (b ≤ a) && decide (a ≤ c)))]]
    rw [show decide (b ≤ a) = false from h, Bool.false_and]
theorem within_ok : FnOk Try.prog 93 cWithin := fnOk_of fun x => fn_at tab_ok (SOk.nil) mixed (fn := Try.f93) (code := body Try.f93) ⟨Try.func93, rfl, by kernel_rfl, by kernel_rfl, by kernel_rfl, by kernel_rfl⟩ (ev_within x)
theorem ev_iUserOk : ∀ x, evFn tab [(93, cWithin)] cUserOk Try.f126 (body Try.f126) x := by
  intro k
  conv => whnf
  refine ⟨⟨k.size, 1, 8⟩, rfl, ?_⟩
  rintro _ _ ⟨rfl, rfl⟩
  conv => whnf
  refine ⟨⟨rfl, ?_⟩⟩
  show [[D.lf (.bool (decide ((1 : Int) ≤ k.size) && decide ((k.size : Int) ≤ 8)))]] = [[D.lf (.bool (userOkB k))]]
  unfold userOkB
  rw [show decide ((1 : Int) ≤ k.size) = decide (1 ≤ k.size) from decide_eq_decide.2 (by omega), show decide ((k.size : Int) ≤ 8) = decide (k.size ≤ 8) from decide_eq_decide.2 (by omega)]
theorem iUserOk_ok : FnOk Try.prog 126 cUserOk := fnOk_of fun x => fn_at tab_ok (SOk.cons within_ok SOk.nil) mixed (fn := Try.f126) (code := body Try.f126) ⟨Try.func126, rfl, by kernel_rfl, by kernel_rfl, by kernel_rfl, by kernel_rfl⟩ (ev_iUserOk x)
theorem ev_iKeyOk : ∀ x, evFn tab [(93, cWithin)] cKeyOk Try.f66 (body Try.f66) x := by
  intro k
  conv => whnf
  refine ⟨⟨k.size, 1, 16⟩, rfl, ?_⟩
  rintro _ _ ⟨rfl, rfl⟩
  conv => whnf
  refine ⟨⟨rfl, ?_⟩⟩
  show [[D.lf (.bool (decide ((1 : Int) ≤ k.size) && decide ((k.size : Int) ≤ 16)))]] = [[D.lf (.bool (keyOkB k))]]
  unfold keyOkB
  rw [show decide ((1 : Int) ≤ k.size) = decide (1 ≤ k.size) from decide_eq_decide.2 (by omega), show decide ((k.size : Int) ≤ 16) = decide (k.size ≤ 16) from decide_eq_decide.2 (by omega)]
theorem iKeyOk_ok : FnOk Try.prog 66 cKeyOk := fnOk_of fun x => fn_at tab_ok (SOk.cons within_ok SOk.nil) mixed (fn := Try.f66) (code := body Try.f66) ⟨Try.func66, rfl, by kernel_rfl, by kernel_rfl, by kernel_rfl, by kernel_rfl⟩ (ev_iKeyOk x)
theorem natI (a b : Nat) : decide ((a : Int) ≤ b) = decide (a ≤ b) := decide_eq_decide.2 (by omega)
theorem natG (a b : Nat) : decide ((a : Int) > b) = !decide (a ≤ b) := by
  by_cases h : a ≤ b
  · rw [decide_eq_true h, decide_eq_false (by omega)]; rfl
  · rw [decide_eq_false h, decide_eq_true (by omega)]; rfl
theorem ev_sRangeOk : ∀ x, evFn tab [] cRangeOk Try.f65 (body Try.f65) x := by
  rintro ⟨a, b⟩
  repeat' ((conv => whnf); refine br2 (fun h => ?_) (fun h => ?_))
  all_goals (conv => whnf)
  all_goals refine ⟨⟨rfl, ?_⟩⟩
  all_goals show _ = [[D.lf (.bool (rangeOkB a b))]]
  · have h1 : ¬ a.size ≤ 17 := by have := of_decide_eq_true h; simp at this; omega
    simp [rangeOkB, h1]
  · rename_i h0
    have h1 : ¬ b.size ≤ 17 := by have := of_decide_eq_true h; simp at this; omega
    simp [rangeOkB, h1]
  · rename_i h1 h0
    have h3 : a.size ≤ 17 := by have := of_decide_eq_false h1; simp at this; omega
    have h4 : b.size ≤ 17 := by have := of_decide_eq_false h0; simp at this; omega
    have h5 : emp b = true := h
    simp [rangeOkB, h3, h4, h5]
  · rename_i h1 h0
    have h3 : a.size ≤ 17 := by have := of_decide_eq_false h1; simp at this; omega
    have h4 : b.size ≤ 17 := by have := of_decide_eq_false h0; simp at this; omega
    have h5 : emp b = false := h
    simp [rangeOkB, h3, h4, h5]
theorem sRangeOk_ok : FnOk Try.prog 65 cRangeOk := fnOk_of fun x => fn_at tab_ok (SOk.nil) mixed (fn := Try.f65) (code := body Try.f65) ⟨Try.func65, rfl, by kernel_rfl, by kernel_rfl, by kernel_rfl, by kernel_rfl⟩ (ev_sRangeOk x)
theorem ev_iRangeOk : ∀ x, evFn tab [] cRangeOk Try.f64 (body Try.f64) x := by
  rintro ⟨a, b⟩
  repeat' ((conv => whnf); refine br2 (fun h => ?_) (fun h => ?_))
  all_goals (conv => whnf)
  all_goals refine ⟨⟨rfl, ?_⟩⟩
  all_goals show _ = [[D.lf (.bool (rangeOkB a b))]]
  · rename_i h1 h0
    have h3 : a.size ≤ 17 := by have := of_decide_eq_true h1; simp at this; omega
    have h4 : b.size ≤ 17 := by have := of_decide_eq_true h0; simp at this; omega
    have h5 : emp b = true := h
    simp [rangeOkB, h3, h4, h5]
  · rename_i h1 h0
    have h3 : a.size ≤ 17 := by have := of_decide_eq_true h1; simp at this; omega
    have h4 : b.size ≤ 17 := by have := of_decide_eq_true h0; simp at this; omega
    have h5 : emp b = false := h
    show [[D.lf (.bool (!(strLt b a || strEq b a)))]] = _
    rw [strLt_gtr]
    simp [rangeOkB, h3, h4, h5]
  · rename_i h0
    have h1 : ¬ b.size ≤ 17 := by have := of_decide_eq_false h; simp at this; omega
    simp [rangeOkB, h1]
  · have h1 : ¬ a.size ≤ 17 := by have := of_decide_eq_false h; simp at this; omega
    simp [rangeOkB, h1]
theorem iRangeOk_ok : FnOk Try.prog 64 cRangeOk := fnOk_of fun x => fn_at tab_ok (SOk.nil) mixed (fn := Try.f64) (code := body Try.f64) ⟨Try.func64, rfl, by kernel_rfl, by kernel_rfl, by kernel_rfl, by kernel_rfl⟩ (ev_iRangeOk x)
theorem ev_sReachOk : ∀ x, evFn tab [(65, cRangeOk)] cReachOk Try.f101 (body Try.f101) x := by
  rintro ⟨a, b⟩
  conv => whnf
  refine ⟨(a, b), rfl, ?_⟩
  rintro _ _ ⟨rfl, rfl⟩
  repeat' ((conv => whnf); refine br2 (fun h => ?_) (fun h => ?_))
  all_goals (conv => whnf)
  all_goals refine ⟨⟨rfl, ?_⟩⟩
  all_goals show _ = [[D.lf (.bool (reachOkB a b))]]
  · rename_i h1
    have h2 : rangeOkB a b = true := h1
    have h3 : a.size ≤ 9 := by have := of_decide_eq_true h; simp at this; omega
    show [[D.lf (.bool (decide ((b.size : Int) ≤ (9 : Nat))))]] = _
    rw [natI]
    simp [reachOkB, h2, h3]
  · rename_i h1
    have h2 : rangeOkB a b = true := h1
    have h3 : ¬ a.size ≤ 9 := by have := of_decide_eq_false h; simp at this; omega
    simp [reachOkB, h2, h3]
  · have h2 : rangeOkB a b = false := h
    simp [reachOkB, h2]
theorem sReachOk_ok : FnOk Try.prog 101 cReachOk := fnOk_of fun x => fn_at tab_ok (SOk.cons sRangeOk_ok SOk.nil) mixed (fn := Try.f101) (code := body Try.f101) ⟨Try.func101, rfl, by kernel_rfl, by kernel_rfl, by kernel_rfl, by kernel_rfl⟩ (ev_sReachOk x)
theorem ev_iReachOk : ∀ x, evFn tab [(64, cRangeOk)] cReachOk Try.f128 (body Try.f128) x := by
  rintro ⟨a, b⟩
  conv => whnf
  refine ⟨(a, b), rfl, ?_⟩
  rintro _ _ ⟨rfl, rfl⟩
  repeat' ((conv => whnf); refine br2 (fun h => ?_) (fun h => ?_))
  all_goals (conv => whnf)
  all_goals refine ⟨⟨rfl, ?_⟩⟩
  all_goals show _ = [[D.lf (.bool (reachOkB a b))]]
  · rename_i h1
    have h2 : rangeOkB a b = true := h1
    have h3 : a.size ≤ 9 := by have := of_decide_eq_true h; simp at this; omega
    show [[D.lf (.bool (decide ((b.size : Int) ≤ (9 : Nat))))]] = _
    rw [natI]
    simp [reachOkB, h2, h3]
  · rename_i h1
    have h2 : rangeOkB a b = true := h1
    have h3 : ¬ a.size ≤ 9 := by have := of_decide_eq_false h; simp at this; omega
    simp [reachOkB, h2, h3]
  · have h2 : rangeOkB a b = false := h
    simp [reachOkB, h2]
theorem iReachOk_ok : FnOk Try.prog 128 cReachOk := fnOk_of fun x => fn_at tab_ok (SOk.cons iRangeOk_ok SOk.nil) mixed (fn := Try.f128) (code := body Try.f128) ⟨Try.func128, rfl, by kernel_rfl, by kernel_rfl, by kernel_rfl, by kernel_rfl⟩ (ev_iReachOk x)

/-! Records -/
structure RecX where
  kind : Int
  key : ByteArray
  val : ByteArray
  lo : ByteArray
  hi : ByteArray
def RecX.ds (r : RecX) : List D := [.lf (.int .i64 r.kind), .lf (.string r.key), .lf (.string r.val), .lf (.string r.lo), .lf (.string r.hi)]
def recOkB (r : RecX) : Bool :=
  if r.kind = 1 then userOkB r.key && uvalOkB r.val && (emp r.lo && emp r.hi)
  else if r.kind = 2 then userOkB r.key && emp r.val && (emp r.lo && emp r.hi)
  else if r.kind = 3 ∨ r.kind = 4 then emp r.key && emp r.val && reachOkB r.lo r.hi
  else false
def cRecOk : Con := pureC RecX [(.rd, true)] [false] (fun r => [r.ds]) (fun r => [[.lf (.bool (recOkB r))]])
theorem ev_sRecOk : ∀ x, evFn tab [(99, cUserOk), (100, cUvalOk), (101, cReachOk)] cRecOk Try.f47 (body Try.f47) x := by
  rintro ⟨kind, key, val, lo, hi⟩
  repeat' ((conv => whnf); first | refine br2 (fun h => ?_) (fun h => ?_) | (refine ⟨key, rfl, ?_⟩; rintro _ _ ⟨rfl, rfl⟩) | (refine ⟨val, rfl, ?_⟩; rintro _ _ ⟨rfl, rfl⟩) | (refine ⟨(lo, hi), rfl, ?_⟩; rintro _ _ ⟨rfl, rfl⟩))
  all_goals (conv => whnf)
  all_goals refine ⟨⟨rfl, ?_⟩⟩
  all_goals show _ = [[D.lf (.bool (recOkB ⟨kind, key, val, lo, hi⟩))]]
  all_goals simp_all [recOkB, emp]
theorem sRecOk_ok : FnOk Try.prog 47 cRecOk := fnOk_of fun x => fn_at tab_ok (SOk.cons sUserOk_ok (SOk.cons sUvalOk_ok (SOk.cons sReachOk_ok SOk.nil))) mixed (fn := Try.f47) (code := body Try.f47) ⟨Try.func47, rfl, by kernel_rfl, by kernel_rfl, by kernel_rfl, by kernel_rfl⟩ (ev_sRecOk x)
theorem ev_iRecOk : ∀ x, evFn tab [(126, cUserOk), (127, cUvalOk), (128, cReachOk)] cRecOk Try.f74 (body Try.f74) x := by
  rintro ⟨kind, key, val, lo, hi⟩
  repeat' ((conv => whnf); first | refine br2 (fun h => ?_) (fun h => ?_) | (refine ⟨key, rfl, ?_⟩; rintro _ _ ⟨rfl, rfl⟩) | (refine ⟨val, rfl, ?_⟩; rintro _ _ ⟨rfl, rfl⟩) | (refine ⟨(lo, hi), rfl, ?_⟩; rintro _ _ ⟨rfl, rfl⟩))
  all_goals (conv => whnf)
  all_goals refine ⟨⟨rfl, ?_⟩⟩
  all_goals show _ = [[D.lf (.bool (recOkB ⟨kind, key, val, lo, hi⟩))]]
  all_goals simp_all [recOkB, emp]
theorem iRecOk_ok : FnOk Try.prog 74 cRecOk := fnOk_of fun x => fn_at tab_ok (SOk.cons iUserOk_ok (SOk.cons iUvalOk_ok (SOk.cons iReachOk_ok SOk.nil))) mixed (fn := Try.f74) (code := body Try.f74) ⟨Try.func74, rfl, by kernel_rfl, by kernel_rfl, by kernel_rfl, by kernel_rfl⟩ (ev_iRecOk x)
theorem eqf_strs (a b : ByteArray) : (!strEq a b) = true ↔ a ≠ b := by rw [Bool.not_eq_true', strEq_no]

/-! Equal structs -/
structure Rng2 where
  a : ByteArray
  b : ByteArray
  c : ByteArray
  d : ByteArray
def cEqRange : Con := pureC Rng2 [(.rd, true), (.rd, true)] [false] (fun x => [[.lf (.string x.a), .lf (.string x.b)], [.lf (.string x.c), .lf (.string x.d)]]) (fun x => [[.lf (.bool (strEq x.a x.c && strEq x.b x.d))]])
theorem ev_eqRange : ∀ x, evFn tab [] cEqRange Try.f80 (body Try.f80) x := by
  rintro ⟨a, b, c, d⟩
  repeat' ((conv => whnf); refine br2 (fun h => ?_) (fun h => ?_))
  all_goals (conv => whnf)
  all_goals refine ⟨⟨rfl, ?_⟩⟩
  all_goals show _ = [[D.lf (.bool (strEq a c && strEq b d))]]
  all_goals simp_all
theorem eqRange_ok : FnOk Try.prog 80 cEqRange := fnOk_of fun x => fn_at tab_ok (SOk.nil) mixed (fn := Try.f80) (code := body Try.f80) ⟨Try.func80, rfl, by kernel_rfl, by kernel_rfl, by kernel_rfl, by kernel_rfl⟩ (ev_eqRange x)
noncomputable def cEqRec : Con := pureC (RecX × RecX) [(.rd, true), (.rd, true)] [false] (fun x => [x.1.ds, x.2.ds]) (fun x => [[.lf (.bool (eqX x.1 x.2))]])
theorem ev_eqRec : ∀ x, evFn tab [(80, cEqRange)] cEqRec Try.f26 (body Try.f26) x := by
  rintro ⟨⟨k, a, b, c, d⟩, ⟨k', a', b', c', d'⟩⟩
  repeat' ((conv => whnf); first | refine br2 (fun h => ?_) (fun h => ?_) | (refine ⟨⟨c, d, c', d'⟩, rfl, ?_⟩; rintro _ _ ⟨rfl, rfl⟩))
  all_goals (conv => whnf)
  all_goals refine ⟨⟨rfl, ?_⟩⟩
  all_goals show _ = [[D.lf (.bool (eqX (⟨k, a, b, c, d⟩ : RecX) ⟨k', a', b', c', d'⟩))]]
  all_goals congr 4
  all_goals rw [eq_comm]
  all_goals simp_all [strEq_iff, strEq_no, eqX_iff, eqX_no]
  exact fun e1 e2 => h.elim (fun h => h e1) (fun h => h e2)
theorem eqRec_ok : FnOk Try.prog 26 cEqRec := fnOk_of fun x => fn_at tab_ok (SOk.cons eqRange_ok SOk.nil) mixed (fn := Try.f26) (code := body Try.f26) ⟨Try.func26, rfl, by kernel_rfl, by kernel_rfl, by kernel_rfl, by kernel_rfl⟩ (ev_eqRec x)
end Go.Vm
namespace Go.Vm
open Go.Proofs
set_option maxRecDepth 100000
set_option linter.unusedVariables false
set_option linter.unusedSimpArgs false

/-- A record's bytes. -/
def recB (r : RecX) : List UInt8 :=
  if r.kind = 1 then 119 :: (encT r.key ++ encT r.val)
  else if r.kind = 2 then 103 :: encT r.key
  else if r.kind = 3 then 115 :: (encT r.lo ++ encT r.hi)
  else 120 :: (encT r.lo ++ encT r.hi)
def recT (r : RecX) : ByteArray := if recOkB r then ofB (recB r) else ⟨#[]⟩
def cRecText : Con := pureC RecX [(.rd, true)] [false] (fun r => [r.ds]) (fun r => [[.lf (.string (recT r))]])

theorem recOk_1 {r : RecX} (h : recOkB r = true) (h1 : r.kind = 1) : r.key.size ≤ 8 ∧ r.val.size ≤ 20 := by
  simp [recOkB, h1, userOkB, uvalOkB] at h; omega
theorem recOk_2 {r : RecX} (h : recOkB r = true) (h1 : r.kind = 2) : r.key.size ≤ 8 := by
  simp [recOkB, h1, userOkB] at h; omega
theorem recOk_34 {r : RecX} (h : recOkB r = true) (h1 : ¬ r.kind = 1) (h2 : ¬ r.kind = 2) : (r.kind = 3 ∨ r.kind = 4) ∧ r.lo.size ≤ 9 ∧ r.hi.size ≤ 9 := by
  simp only [recOkB, if_neg h1, if_neg h2] at h
  split at h
  · rename_i h3
    simp [reachOkB] at h
    exact ⟨h3, by omega, by omega⟩
  · cases h

theorem ev_iRecText : ∀ x, evFn tab [(74, cRecOk), (98, cText)] cRecText Try.f46 (body Try.f46) x := by
  rintro ⟨kind, key, val, lo, hi⟩
  conv => whnf
  refine ⟨⟨kind, key, val, lo, hi⟩, rfl, ?_⟩
  rintro _ _ ⟨rfl, rfl⟩
  conv => whnf
  refine br2 (fun h1 => ?_) (fun h1 => ?_)
  · conv => whnf
    refine ⟨⟨rfl, ?_⟩⟩
    have h1' : recOkB ⟨kind, key, val, lo, hi⟩ = false := by simpa using h1
    show _ = [[D.lf (.string (recT ⟨kind, key, val, lo, hi⟩))]]
    simp [recT, h1']
  have h1' : recOkB ⟨kind, key, val, lo, hi⟩ = true := by simpa using h1
  conv => whnf
  refine br2 (fun h2 => ?_) (fun h2 => ?_)
  · have h2' : kind = 1 := by simpa using h2
    obtain ⟨q1, q2⟩ : key.size ≤ 8 ∧ val.size ≤ 20 := recOk_1 h1' h2'
    conv => whnf
    repeat (refine ⟨rfl, ?_⟩; conv => whnf)
    refine ⟨UInt8, encB, [119], encB_len, rfl, ?_⟩
    conv => whnf
    refine ⟨⟨[119], key, by simp, by omega⟩, rfl, ?_⟩
    rintro _ _ ⟨rfl, rfl⟩
    conv => whnf
    repeat (refine ⟨rfl, ?_⟩; conv => whnf)
    refine ⟨⟨[119] ++ encT key, val, ?_, by omega⟩, rfl, ?_⟩
    · have := varB_len (n := key.size) (by omega)
      simp [encT, bs_len]; omega
    rintro _ _ ⟨rfl, rfl⟩
    conv => whnf
    repeat (refine ⟨rfl, ?_⟩; conv => whnf)
    refine ⟨[119] ++ encT key ++ encT val, rfl, ?_⟩
    conv => whnf
    repeat (refine ⟨rfl, ?_⟩; conv => whnf)
    show [[D.lf (.string (ofB ([119] ++ encT key ++ encT val)))]] = [[D.lf (.string (recT ⟨kind, key, val, lo, hi⟩))]]
    rw [show recT ⟨kind, key, val, lo, hi⟩ = ofB (recB ⟨kind, key, val, lo, hi⟩) from if_pos h1']
    simp [recB, h2']
  have h2' : ¬ kind = 1 := by simpa using h2
  conv => whnf
  refine br2 (fun h3 => ?_) (fun h3 => ?_)
  · have h3' : kind = 2 := by simpa using h3
    have q1 : key.size ≤ 8 := recOk_2 h1' h3'
    conv => whnf
    refine ⟨UInt8, encB, [103], encB_len, rfl, ?_⟩
    conv => whnf
    refine ⟨⟨[103], key, by simp, by omega⟩, rfl, ?_⟩
    rintro _ _ ⟨rfl, rfl⟩
    conv => whnf
    refine ⟨[103] ++ encT key, rfl, ?_⟩
    conv => whnf
    refine ⟨⟨rfl, ?_⟩⟩
    show [[D.lf (.string (ofB ([103] ++ encT key)))]] = [[D.lf (.string (recT ⟨kind, key, val, lo, hi⟩))]]
    rw [show recT ⟨kind, key, val, lo, hi⟩ = ofB (recB ⟨kind, key, val, lo, hi⟩) from if_pos h1']
    simp [recB, h3']
  have h3' : ¬ kind = 2 := by simpa using h3
  obtain ⟨q0, q1, q2⟩ : (kind = 3 ∨ kind = 4) ∧ lo.size ≤ 9 ∧ hi.size ≤ 9 := recOk_34 h1' h2' h3'
  conv => whnf
  refine br2 (fun h4 => ?_) (fun h4 => ?_)
  · have h4' : kind = 3 := by simpa using h4
    conv => whnf
    repeat (refine ⟨rfl, ?_⟩; conv => whnf)
    refine ⟨UInt8, encB, [115], encB_len, rfl, ?_⟩
    conv => whnf
    refine ⟨⟨[115], lo, by simp, by omega⟩, rfl, ?_⟩
    rintro _ _ ⟨rfl, rfl⟩
    conv => whnf
    repeat (refine ⟨rfl, ?_⟩; conv => whnf)
    refine ⟨⟨[115] ++ encT lo, hi, ?_, by omega⟩, rfl, ?_⟩
    · have := varB_len (n := lo.size) (by omega)
      simp [encT, bs_len]; omega
    rintro _ _ ⟨rfl, rfl⟩
    conv => whnf
    repeat (refine ⟨rfl, ?_⟩; conv => whnf)
    refine ⟨[115] ++ encT lo ++ encT hi, rfl, ?_⟩
    conv => whnf
    repeat (refine ⟨rfl, ?_⟩; conv => whnf)
    show [[D.lf (.string (ofB ([115] ++ encT lo ++ encT hi)))]] = [[D.lf (.string (recT ⟨kind, key, val, lo, hi⟩))]]
    rw [show recT ⟨kind, key, val, lo, hi⟩ = ofB (recB ⟨kind, key, val, lo, hi⟩) from if_pos h1']
    simp [recB, h4']
  have h4' : ¬ kind = 3 := by simpa using h4
  conv => whnf
  repeat (refine ⟨rfl, ?_⟩; conv => whnf)
  refine ⟨UInt8, encB, [120], encB_len, rfl, ?_⟩
  conv => whnf
  refine ⟨⟨[120], lo, by simp, by omega⟩, rfl, ?_⟩
  rintro _ _ ⟨rfl, rfl⟩
  conv => whnf
  repeat (refine ⟨rfl, ?_⟩; conv => whnf)
  refine ⟨⟨[120] ++ encT lo, hi, ?_, by omega⟩, rfl, ?_⟩
  · have := varB_len (n := lo.size) (by omega)
    simp [encT, bs_len]; omega
  rintro _ _ ⟨rfl, rfl⟩
  conv => whnf
  repeat (refine ⟨rfl, ?_⟩; conv => whnf)
  refine ⟨[120] ++ encT lo ++ encT hi, rfl, ?_⟩
  conv => whnf
  repeat (refine ⟨rfl, ?_⟩; conv => whnf)
  show [[D.lf (.string (ofB ([120] ++ encT lo ++ encT hi)))]] = [[D.lf (.string (recT ⟨kind, key, val, lo, hi⟩))]]
  rw [show recT ⟨kind, key, val, lo, hi⟩ = ofB (recB ⟨kind, key, val, lo, hi⟩) from if_pos h1']
  simp [recB, h2', h3', h4']
theorem iRecText_ok : FnOk Try.prog 46 cRecText := fnOk_of fun x => fn_at tab_ok (SOk.cons iRecOk_ok (SOk.cons iText_ok SOk.nil)) mixed (fn := Try.f46) (code := body Try.f46) ⟨Try.func46, rfl, by kernel_rfl, by kernel_rfl, by kernel_rfl, by kernel_rfl⟩ (ev_iRecText x)
end Go.Vm
namespace Go.Vm
open Go.Proofs
set_option maxRecDepth 100000
set_option linter.unusedVariables false
set_option linter.unusedSimpArgs false

theorem encT_len (s : ByteArray) : (encT s).length = (varB s.size).length + s.size := by simp [encT, bs_len]
theorem putTL_eq {l : List UInt8} {s : ByteArray} (h : l.length + s.size ≤ 4000) : putTL l s = l ++ encT s := by
  have := varB_len (n := s.size) (by omega)
  unfold putTL putTB
  rw [if_pos (decide_eq_true (by rw [encT_len]; omega))]
theorem recOk_kind {r : RecX} (h : recOkB r = true) : r.kind = 1 ∨ r.kind = 2 ∨ r.kind = 3 ∨ r.kind = 4 := by
  by_cases h1 : r.kind = 1
  · exact .inl h1
  · by_cases h2 : r.kind = 2
    · exact .inr (.inl h2)
    · rcases (recOk_34 h h1 h2).1 with h3 | h3
      · exact .inr (.inr (.inl h3))
      · exact .inr (.inr (.inr h3))

theorem ev_sRecText : ∀ x, evFn tab [(47, cRecOk), (130, cPutText)] cRecText Try.f78 (body Try.f78) x := by
  rintro ⟨kind, key, val, lo, hi⟩
  conv => whnf
  refine ⟨⟨kind, key, val, lo, hi⟩, rfl, ?_⟩
  rintro _ _ ⟨rfl, rfl⟩
  conv => whnf
  refine br2 (fun h1 => ?_) (fun h1 => ?_)
  · conv => whnf
    refine ⟨⟨rfl, ?_⟩⟩
    have h1' : recOkB ⟨kind, key, val, lo, hi⟩ = false := by simpa using h1
    show _ = [[D.lf (.string (recT ⟨kind, key, val, lo, hi⟩))]]
    simp [recT, h1']
  have h1' : recOkB ⟨kind, key, val, lo, hi⟩ = true := by simpa using h1
  rcases (recOk_kind h1' : kind = 1 ∨ kind = 2 ∨ kind = 3 ∨ kind = 4) with rfl | rfl | rfl | rfl
  · obtain ⟨q1, q2⟩ : key.size ≤ 8 ∧ val.size ≤ 20 := recOk_1 h1' rfl
    have e1 : putTL [119] key = [119] ++ encT key := putTL_eq (by simp; omega)
    have l1 := varB_len (n := key.size) (by omega)
    have e2 : putTL ([119] ++ encT key) val = [119] ++ encT key ++ encT val := putTL_eq (by simp [encT_len]; omega)
    conv => whnf
    refine ⟨(by show (0 : Int) ≤ 1; decide), (by show (1 : Int) < 5; decide), ?_⟩
    conv => whnf
    refine ⟨UInt8, encB, [119], encB_len, rfl, ?_⟩
    conv => whnf
    refine ⟨⟨[119], key, by simp, by omega⟩, rfl, ?_⟩
    rintro _ _ ⟨rfl, rfl⟩
    conv => whnf
    refine ⟨⟨putTL [119] key, val, by rw [e1]; simp [encT_len]; omega, by omega⟩, rfl, ?_⟩
    rintro _ _ ⟨rfl, rfl⟩
    conv => whnf
    refine ⟨putTL (putTL [119] key) val, rfl, ?_⟩
    conv => whnf
    refine ⟨⟨rfl, ?_⟩⟩
    show [[D.lf (.string (ofB (putTL (putTL [119] key) val)))]] = [[D.lf (.string (recT ⟨1, key, val, lo, hi⟩))]]
    rw [e1, e2, show recT ⟨1, key, val, lo, hi⟩ = ofB (recB ⟨1, key, val, lo, hi⟩) from if_pos h1']
    simp [recB]
  · have q1 : key.size ≤ 8 := recOk_2 h1' rfl
    have e1 : putTL [103] key = [103] ++ encT key := putTL_eq (by simp; omega)
    conv => whnf
    refine ⟨(by show (0 : Int) ≤ 2; decide), (by show (2 : Int) < 5; decide), ?_⟩
    conv => whnf
    refine ⟨UInt8, encB, [103], encB_len, rfl, ?_⟩
    conv => whnf
    refine ⟨⟨[103], key, by simp, by omega⟩, rfl, ?_⟩
    rintro _ _ ⟨rfl, rfl⟩
    conv => whnf
    refine ⟨putTL [103] key, rfl, ?_⟩
    conv => whnf
    refine ⟨⟨rfl, ?_⟩⟩
    show [[D.lf (.string (ofB (putTL [103] key)))]] = [[D.lf (.string (recT ⟨2, key, val, lo, hi⟩))]]
    rw [e1, show recT ⟨2, key, val, lo, hi⟩ = ofB (recB ⟨2, key, val, lo, hi⟩) from if_pos h1']
    simp [recB]
  · obtain ⟨_, q1, q2⟩ : (_ ∨ _) ∧ lo.size ≤ 9 ∧ hi.size ≤ 9 := recOk_34 h1' (by simp) (by simp)
    have e1 : putTL [115] lo = [115] ++ encT lo := putTL_eq (by simp; omega)
    have l1 := varB_len (n := lo.size) (by omega)
    have e2 : putTL ([115] ++ encT lo) hi = [115] ++ encT lo ++ encT hi := putTL_eq (by simp [encT_len]; omega)
    conv => whnf
    refine ⟨(by show (0 : Int) ≤ 3; decide), (by show (3 : Int) < 5; decide), ?_⟩
    conv => whnf
    refine ⟨UInt8, encB, [115], encB_len, rfl, ?_⟩
    conv => whnf
    refine ⟨⟨[115], lo, by simp, by omega⟩, rfl, ?_⟩
    rintro _ _ ⟨rfl, rfl⟩
    conv => whnf
    refine ⟨⟨putTL [115] lo, hi, by rw [e1]; simp [encT_len]; omega, by omega⟩, rfl, ?_⟩
    rintro _ _ ⟨rfl, rfl⟩
    conv => whnf
    refine ⟨putTL (putTL [115] lo) hi, rfl, ?_⟩
    conv => whnf
    refine ⟨⟨rfl, ?_⟩⟩
    show [[D.lf (.string (ofB (putTL (putTL [115] lo) hi)))]] = [[D.lf (.string (recT ⟨3, key, val, lo, hi⟩))]]
    rw [e1, e2, show recT ⟨3, key, val, lo, hi⟩ = ofB (recB ⟨3, key, val, lo, hi⟩) from if_pos h1']
    simp [recB]
  · obtain ⟨_, q1, q2⟩ : (_ ∨ _) ∧ lo.size ≤ 9 ∧ hi.size ≤ 9 := recOk_34 h1' (by simp) (by simp)
    have e1 : putTL [120] lo = [120] ++ encT lo := putTL_eq (by simp; omega)
    have l1 := varB_len (n := lo.size) (by omega)
    have e2 : putTL ([120] ++ encT lo) hi = [120] ++ encT lo ++ encT hi := putTL_eq (by simp [encT_len]; omega)
    conv => whnf
    refine ⟨(by show (0 : Int) ≤ 4; decide), (by show (4 : Int) < 5; decide), ?_⟩
    conv => whnf
    refine ⟨UInt8, encB, [120], encB_len, rfl, ?_⟩
    conv => whnf
    refine ⟨⟨[120], lo, by simp, by omega⟩, rfl, ?_⟩
    rintro _ _ ⟨rfl, rfl⟩
    conv => whnf
    refine ⟨⟨putTL [120] lo, hi, by rw [e1]; simp [encT_len]; omega, by omega⟩, rfl, ?_⟩
    rintro _ _ ⟨rfl, rfl⟩
    conv => whnf
    refine ⟨putTL (putTL [120] lo) hi, rfl, ?_⟩
    conv => whnf
    refine ⟨⟨rfl, ?_⟩⟩
    show [[D.lf (.string (ofB (putTL (putTL [120] lo) hi)))]] = [[D.lf (.string (recT ⟨4, key, val, lo, hi⟩))]]
    rw [e1, e2, show recT ⟨4, key, val, lo, hi⟩ = ofB (recB ⟨4, key, val, lo, hi⟩) from if_pos h1']
    simp [recB]
theorem sRecText_ok : FnOk Try.prog 78 cRecText := fnOk_of fun x => fn_at tab_ok (SOk.cons sRecOk_ok (SOk.cons sPutText_ok SOk.nil)) mixed (fn := Try.f78) (code := body Try.f78) ⟨Try.func78, rfl, by kernel_rfl, by kernel_rfl, by kernel_rfl, by kernel_rfl⟩ (ev_sRecText x)

/-! The scanner -/
structure ScanX where
  l : List UInt8
  a : Int
  bad : Bool
  hl : l.length ≤ 4294967296
  h1 : -9223372036854775808 ≤ a
  h2 : a ≤ 9223372036854775807
def scanD (l : List UInt8) (a : Int) (bad : Bool) : List (List D) := [[.box [.row 1 encB l, .lf (.int .i64 a), .lf (.bool bad)]]]
/-- What the scanner does where a text is read. -/
structure ScanT (l : List UInt8) (a : Int) (bad : Bool) (t : ByteArray) (a' : Int) (bad' : Bool) : Prop where
  lo : -9223372036854775808 ≤ a'
  hi : a' ≤ 9223372036854775807
  got : ∀ (pre : List UInt8) (u : ByteArray) (post : List UInt8), bad = false → l = pre ++ encT u ++ post → a = pre.length → u.size ≤ 1099511627775 → t = u ∧ a' = pre.length + (encT u).length ∧ bad' = false
def cScanText : Con := { X := ScanX, params := [(.mut, false)], res := [false], resOwn := true, ins := (fun x => scanD x.l x.a x.bad), post := fun x outs r => ∃ t a' bad', outs = scanD x.l a' bad' ∧ r = [[.lf (.string t)]] ∧ ScanT x.l x.a x.bad t a' bad' }
theorem ev_scanText : ∀ x, evFn tab [(131, cGetText)] cScanText Try.f79 (body Try.f79) x := by
  rintro ⟨l, a, bad, hl, h1, h2⟩
  conv => whnf
  refine ⟨⟨l, a, hl, h1, h2⟩, rfl, ?_⟩
  rintro _ _ ⟨rfl, t, nx, rfl, hG⟩
  have hG0 : nx = -1 ∧ t = ⟨#[]⟩ ∨ 0 ≤ a ∧ a < nx ∧ nx ≤ l.length ∧ t.size ≤ l.length := hG.1
  conv => whnf
  repeat (refine ⟨rfl, ?_⟩; conv => whnf)
  cases bad with
  | true =>
    conv => whnf
    refine ⟨⟨⟨#[]⟩, a, true, rfl, rfl, h1, h2, fun pre u post h => by cases h⟩⟩
  | false =>
    conv => whnf
    refine br2 (fun h3 => ?_) (fun h3 => ?_)
    · have h3' := of_decide_eq_true h3
      conv => whnf
      refine ⟨⟨⟨#[]⟩, a, true, rfl, rfl, h1, h2, fun pre u post _ e1 e2 e3 => ?_⟩⟩
      obtain ⟨_, e5⟩ := hG.2 pre u post e1 e2 e3
      omega
    · have h3' := of_decide_eq_false h3
      conv => whnf
      refine ⟨⟨t, nx, false, rfl, rfl, by omega, by omega, fun pre u post _ e1 e2 e3 => ?_⟩⟩
      obtain ⟨e4, e5⟩ := hG.2 pre u post e1 e2 e3
      exact ⟨e4, e5, rfl⟩
theorem scanText_ok : FnOk Try.prog 79 cScanText := fnOk_of fun x => fn_at tab_ok (SOk.cons iGetText_ok SOk.nil) mixed (fn := Try.f79) (code := body Try.f79) ⟨Try.func79, rfl, by kernel_rfl, by kernel_rfl, by kernel_rfl, by kernel_rfl⟩ (ev_scanText x)
end Go.Vm
namespace Go.Vm
open Go.Proofs
set_option maxRecDepth 100000
set_option linter.unusedVariables false
set_option linter.unusedSimpArgs false

def rec0 : RecX := ⟨0, ⟨#[]⟩, ⟨#[]⟩, ⟨#[]⟩, ⟨#[]⟩⟩
/-- The record whose text this is. -/
structure TextRecR (s : ByteArray) (r : RecX) (ok : Bool) : Prop where
  yes : ok = true → recOkB r = true ∧ recT r = s
  no : ok = false → r = rec0
  all : ∀ q, recOkB q = true → recT q = s → ok = true ∧ r = q
theorem TextRecR.same {s : ByteArray} {r r' : RecX} {ok ok' : Bool} (h : TextRecR s r ok) (h' : TextRecR s r' ok') : r = r' ∧ ok = ok' := by
  cases ok with
  | true =>
    obtain ⟨h1, h2⟩ := h.yes rfl
    obtain ⟨h3, h4⟩ := h'.all r h1 h2
    exact ⟨h4.symm, h3.symm⟩
  | false =>
    cases ok' with
    | true =>
      obtain ⟨h1, h2⟩ := h'.yes rfl
      obtain ⟨h3, _⟩ := h.all r' h1 h2
      cases h3
    | false => exact ⟨(h.no rfl).trans (h'.no rfl).symm, rfl⟩
structure StrX where
  s : ByteArray
  hs : s.size ≤ 100000000
def cTextRec : Con := relC StrX [(.rd, false)] [true, false] (fun x => [[.lf (.string x.s)]]) (fun x r => ∃ q ok, r = [q.ds, [.lf (.bool ok)]] ∧ TextRecR x.s q ok)

theorem textRec_none {s : ByteArray} (h : ∀ q, recOkB q = true → recT q ≠ s) : TextRecR s rec0 false := ⟨fun h => (by cases h), fun _ => rfl, fun q h1 h2 => absurd h2 (h q h1)⟩
theorem recT_of {r : RecX} (h : recOkB r = true) : recT r = ofB (recB r) := if_pos h
theorem recB_ne (r : RecX) : 1 ≤ (recB r).length := by unfold recB; split; simp; split; simp; split; simp; simp
theorem textRec_end {s : ByteArray} {r : RecX} (hs : s ≠ ⟨#[]⟩) (h : ∀ q, recOkB q = true → recT q = s → r = q) : (recT r = s → TextRecR s r true) ∧ (recT r ≠ s → TextRecR s rec0 false) := by
  refine ⟨fun e => ⟨fun _ => ⟨?_, e⟩, fun h => (by cases h), fun q h1 h2 => ⟨rfl, h q h1 h2⟩⟩, fun e => textRec_none fun q h1 h2 => e (by rw [h q h1 h2]; exact h2)⟩
  unfold recT at e
  split at e
  · assumption
  · exact absurd e.symm hs
theorem bt_bs (s : ByteArray) (i : Nat) : bt s (i : Int) = (((bs s).getD i 0).toNat : Int) := rfl
/-- The bytes of a record's text. -/
theorem bs_recT {q : RecX} {s : ByteArray} (h1 : recOkB q = true) (h2 : recT q = s) : bs s = recB q := by
  rw [← h2, recT_of h1, bs_of]
theorem rec_sizes {q : RecX} (h : recOkB q = true) : q.key.size ≤ 1099511627775 ∧ q.val.size ≤ 1099511627775 ∧ q.lo.size ≤ 1099511627775 ∧ q.hi.size ≤ 1099511627775 := by
  rcases recOk_kind h with h1 | h1 | h1 | h1
  · have := recOk_1 h h1
    simp [recOkB, h1, emp_iff] at h
    rw [h.2.1, h.2.2]; exact ⟨by omega, by omega, by decide, by decide⟩
  · have := recOk_2 h h1
    simp [recOkB, h1, emp_iff] at h
    rw [h.2.1, h.2.2, h.1.2]; exact ⟨by omega, by decide, by decide, by decide⟩
  · have := recOk_34 h (by omega) (by omega)
    simp [recOkB, h1, emp_iff] at h
    rw [h.1.1, h.1.2]; exact ⟨by decide, by decide, by omega, by omega⟩
  · have := recOk_34 h (by omega) (by omega)
    simp [recOkB, h1, emp_iff] at h
    rw [h.1.1, h.1.2]; exact ⟨by decide, by decide, by omega, by omega⟩
theorem rec_shape {q : RecX} (h : recOkB q = true) : (q.kind = 1 ∧ q = ⟨1, q.key, q.val, ⟨#[]⟩, ⟨#[]⟩⟩ ∧ recB q = [119] ++ encT q.key ++ encT q.val) ∨
    (q.kind = 2 ∧ q = ⟨2, q.key, ⟨#[]⟩, ⟨#[]⟩, ⟨#[]⟩⟩ ∧ recB q = [103] ++ encT q.key) ∨ (q.kind = 3 ∧ q = ⟨3, ⟨#[]⟩, ⟨#[]⟩, q.lo, q.hi⟩ ∧ recB q = [115] ++ encT q.lo ++ encT q.hi) ∨
    (q.kind = 4 ∧ q = ⟨4, ⟨#[]⟩, ⟨#[]⟩, q.lo, q.hi⟩ ∧ recB q = [120] ++ encT q.lo ++ encT q.hi) := by
  obtain ⟨kind, key, val, lo, hi⟩ := q
  rcases (recOk_kind h : kind = 1 ∨ kind = 2 ∨ kind = 3 ∨ kind = 4) with rfl | rfl | rfl | rfl
  · simp [recOkB, emp_iff] at h
    simp [recB, h]
  · simp [recOkB, emp_iff] at h
    simp [recB, h]
  · simp [recOkB, emp_iff] at h
    simp [recB, h]
  · simp [recOkB, emp_iff] at h
    simp [recB, h]

/-- The first byte tells the kind. -/
theorem rec_first {q : RecX} {s : ByteArray} (h1 : recOkB q = true) (h2 : recT q = s) : bt s 0 = (if q.kind = 1 then 119 else if q.kind = 2 then 103 else if q.kind = 3 then 115 else 120) := by
  have h := bt_bs s 0
  rw [bs_recT h1 h2] at h
  rw [show ((0 : Nat) : Int) = 0 from rfl] at h
  rw [h]
  rcases rec_shape h1 with ⟨e, _, e2⟩ | ⟨e, _, e2⟩ | ⟨e, _, e2⟩ | ⟨e, _, e2⟩ <;> rw [e2] <;> simp [e]

/-- What the scanner reads of a record. -/
theorem scan2 {l : List UInt8} {c : UInt8} {x y : ByteArray} {t t' : ByteArray} {a a' : Int} {b b' : Bool} (h : ScanT l 1 false t a b) (h' : ScanT l a b t' a' b') (hl : l = [c] ++ encT x ++ encT y) (hx : x.size ≤ 1099511627775) (hy : y.size ≤ 1099511627775) :
    t = x ∧ t' = y ∧ b' = false := by
  obtain ⟨e1, e2, e3⟩ := h.got [c] x (encT y) rfl hl rfl hx
  obtain ⟨e4, e5, e6⟩ := h'.got ([c] ++ encT x) y [] e3 (by rw [hl]; simp) (by rw [e2]; simp; omega) hy
  exact ⟨e1, e4, e6⟩
theorem scan1 {l : List UInt8} {c : UInt8} {x : ByteArray} {t : ByteArray} {a : Int} {b : Bool} (h : ScanT l 1 false t a b) (hl : l = [c] ++ encT x) (hx : x.size ≤ 1099511627775) : t = x ∧ b = false := by
  obtain ⟨e1, e2, e3⟩ := h.got [c] x [] rfl (by rw [hl]; simp) rfl hx
  exact ⟨e1, e3⟩

theorem getD0 {x d : UInt8} {r : List UInt8} : (x :: r).getD 0 d = x := rfl
theorem of_ne {s : ByteArray} (h : s ≠ ⟨#[]⟩) : 1 ≤ s.size := by
  rcases Nat.eq_zero_or_pos s.size with h1 | h1
  · exact absurd (by
      obtain ⟨⟨l⟩⟩ := s
      have : l.length = 0 := h1
      rw [List.length_eq_zero_iff] at this
      rw [this]) h
  · exact h1

theorem ev_iTextRec : ∀ x, evFn tab [(79, cScanText), (46, cRecText)] cTextRec Try.f25 (body Try.f25) x := by
  rintro ⟨s, hs⟩
  conv => whnf
  refine br2 (fun h1 => ?_) (fun h1 => ?_)
  · conv => whnf
    refine ⟨⟨rfl, rec0, false, rfl, textRec_none fun q e1 e2 => ?_⟩⟩
    have h1' : s = ⟨#[]⟩ := strEq_iff.1 h1
    have h3 : bs s = recB q := bs_recT e1 e2
    rw [h1'] at h3
    have := recB_ne q
    rw [← h3] at this
    simp [bs] at this
  have hne : s ≠ ⟨#[]⟩ := strEq_no.1 h1
  have hpos := of_ne hne
  conv => whnf
  refine ⟨?_, ?_⟩
  · show s.size ≤ 4294967296; omega
  conv => whnf
  refine ⟨by decide, ?_, ?_⟩
  · show (0 : Int) < s.size; omega
  have hF : ∀ q, recOkB q = true → recT q = s → bt s 0 = (if q.kind = 1 then 119 else if q.kind = 2 then 103 else if q.kind = 3 then 115 else 120) := fun q e1 e2 => rec_first e1 e2
  have hlen : (bs s).length ≤ 4294967296 := by rw [bs_len]; omega
  have fin : ∀ (r : RecX) (b : Bool), (∀ q, recOkB q = true → recT q = s → b = false ∧ r = q) → (b = true → TextRecR s rec0 false) ∧ (b = false → (!strEq (recT r) s) = true → TextRecR s rec0 false) ∧ (b = false → (!strEq (recT r) s) = false → TextRecR s r true) := by
    intro r b h
    obtain ⟨e1, e2⟩ := textRec_end hne (fun q h1 h2 => (h q h1 h2).2)
    refine ⟨fun hb => textRec_none fun q h1 h2 => ?_, fun hb hr => e2 (by rwa [Bool.not_eq_true', strEq_no] at hr), fun hb hr => e1 (by rwa [Bool.not_eq_false', strEq_iff] at hr)⟩
    rw [(h q h1 h2).1] at hb; cases hb
  conv => whnf
  refine br2 (fun h2 => ?_) (fun h2 => ?_)
  · have h2' : bt s 0 = 119 := eq_of_beq h2
    conv => whnf
    refine ⟨⟨bs s, 1, false, hlen, by decide, by decide⟩, rfl, ?_⟩
    rintro _ _ ⟨t, a, b, rfl, rfl, hS⟩
    conv => whnf
    refine ⟨⟨bs s, a, b, hlen, hS.lo, hS.hi⟩, rfl, ?_⟩
    rintro _ _ ⟨t', a', b', rfl, rfl, hS'⟩
    obtain ⟨f1, f2, f3⟩ := fin ⟨1, t, t', ⟨#[]⟩, ⟨#[]⟩⟩ b' (fun q e1 e2 => by
      have := hF q e1 e2
      rw [h2'] at this
      obtain ⟨z1, z2, z3, z4⟩ := rec_sizes e1
      rcases rec_shape e1 with ⟨e, e3, e4⟩ | ⟨e, e3, e4⟩ | ⟨e, e3, e4⟩ | ⟨e, e3, e4⟩
      · obtain ⟨y1, y2, y3⟩ := scan2 hS hS' (by rw [← e4]; exact bs_recT e1 e2) z1 z2
        exact ⟨y3, by rw [e3, y1, y2]⟩
      all_goals (rw [e] at this; simp at this))
    conv => whnf
    refine br2 (fun h3 => ?_) (fun h3 => ?_)
    · conv => whnf
      exact ⟨⟨rfl, rec0, false, rfl, f1 h3⟩⟩
    · conv => whnf
      refine ⟨⟨1, t, t', ⟨#[]⟩, ⟨#[]⟩⟩, rfl, ?_⟩
      rintro _ _ ⟨rfl, rfl⟩
      conv => whnf
      refine br2 (fun h4 => ?_) (fun h4 => ?_)
      · conv => whnf
        exact ⟨⟨rfl, rec0, false, rfl, f2 h3 h4⟩⟩
      · conv => whnf
        exact ⟨⟨rfl, _, true, rfl, f3 h3 h4⟩⟩
  have h2' : bt s 0 ≠ 119 := by simpa using h2
  conv => whnf
  refine br2 (fun h3 => ?_) (fun h3 => ?_)
  · have h3' : bt s 0 = 103 := eq_of_beq h3
    conv => whnf
    refine ⟨⟨bs s, 1, false, hlen, by decide, by decide⟩, rfl, ?_⟩
    rintro _ _ ⟨t, a, b, rfl, rfl, hS⟩
    obtain ⟨f1, f2, f3⟩ := fin ⟨2, t, ⟨#[]⟩, ⟨#[]⟩, ⟨#[]⟩⟩ b (fun q e1 e2 => by
      have := hF q e1 e2
      rw [h3'] at this
      obtain ⟨z1, z2, z3, z4⟩ := rec_sizes e1
      rcases rec_shape e1 with ⟨e, e3, e4⟩ | ⟨e, e3, e4⟩ | ⟨e, e3, e4⟩ | ⟨e, e3, e4⟩
      · rw [e] at this; simp at this
      · obtain ⟨y1, y3⟩ := scan1 hS (by rw [← e4]; exact bs_recT e1 e2) z1
        exact ⟨y3, by rw [e3, y1]⟩
      all_goals (rw [e] at this; simp at this))
    conv => whnf
    refine br2 (fun h3 => ?_) (fun h3 => ?_)
    · conv => whnf
      exact ⟨⟨rfl, rec0, false, rfl, f1 h3⟩⟩
    · conv => whnf
      refine ⟨⟨2, t, ⟨#[]⟩, ⟨#[]⟩, ⟨#[]⟩⟩, rfl, ?_⟩
      rintro _ _ ⟨rfl, rfl⟩
      conv => whnf
      refine br2 (fun h4 => ?_) (fun h4 => ?_)
      · conv => whnf
        exact ⟨⟨rfl, rec0, false, rfl, f2 h3 h4⟩⟩
      · conv => whnf
        exact ⟨⟨rfl, _, true, rfl, f3 h3 h4⟩⟩
  have h3' : bt s 0 ≠ 103 := by simpa using h3
  conv => whnf
  refine br2 (fun h4 => ?_) (fun h4 => ?_)
  · have h4' : bt s 0 = 115 := eq_of_beq h4
    conv => whnf
    refine ⟨by decide, ?_, ?_⟩
    · show (0 : Int) < s.size; omega
    conv => whnf
    refine br2 (fun h5 => absurd (eq_of_beq h5 : bt s 0 = 120) (by omega)) (fun h5 => ?_)
    conv => whnf
    refine ⟨⟨bs s, 1, false, hlen, by decide, by decide⟩, rfl, ?_⟩
    rintro _ _ ⟨t, a, b, rfl, rfl, hS⟩
    conv => whnf
    refine ⟨⟨bs s, a, b, hlen, hS.lo, hS.hi⟩, rfl, ?_⟩
    rintro _ _ ⟨t', a', b', rfl, rfl, hS'⟩
    obtain ⟨f1, f2, f3⟩ := fin ⟨3, ⟨#[]⟩, ⟨#[]⟩, t, t'⟩ b' (fun q e1 e2 => by
      have := hF q e1 e2
      rw [h4'] at this
      obtain ⟨z1, z2, z3, z4⟩ := rec_sizes e1
      rcases rec_shape e1 with ⟨e, e3, e4⟩ | ⟨e, e3, e4⟩ | ⟨e, e3, e4⟩ | ⟨e, e3, e4⟩
      · rw [e] at this; simp at this
      · rw [e] at this; simp at this
      · obtain ⟨y1, y2, y3⟩ := scan2 hS hS' (by rw [← e4]; exact bs_recT e1 e2) z3 z4
        exact ⟨y3, by rw [e3, y1, y2]⟩
      · rw [e] at this; simp at this)
    conv => whnf
    refine br2 (fun h3 => ?_) (fun h3 => ?_)
    · conv => whnf
      exact ⟨⟨rfl, rec0, false, rfl, f1 h3⟩⟩
    · conv => whnf
      refine ⟨⟨3, ⟨#[]⟩, ⟨#[]⟩, t, t'⟩, rfl, ?_⟩
      rintro _ _ ⟨rfl, rfl⟩
      conv => whnf
      refine br2 (fun h4 => ?_) (fun h4 => ?_)
      · conv => whnf
        exact ⟨⟨rfl, rec0, false, rfl, f2 h3 h4⟩⟩
      · conv => whnf
        exact ⟨⟨rfl, _, true, rfl, f3 h3 h4⟩⟩
  have h4' : bt s 0 ≠ 115 := by simpa using h4
  conv => whnf
  refine br2 (fun h5 => ?_) (fun h5 => ?_)
  · have h5' : bt s 0 = 120 := eq_of_beq h5
    conv => whnf
    refine ⟨by decide, ?_, ?_⟩
    · show (0 : Int) < s.size; omega
    conv => whnf
    refine br2 (fun h6 => ?_) (fun h6 => absurd (eq_of_beq h5) (by simpa using h6))
    conv => whnf
    refine ⟨⟨bs s, 1, false, hlen, by decide, by decide⟩, rfl, ?_⟩
    rintro _ _ ⟨t, a, b, rfl, rfl, hS⟩
    conv => whnf
    refine ⟨⟨bs s, a, b, hlen, hS.lo, hS.hi⟩, rfl, ?_⟩
    rintro _ _ ⟨t', a', b', rfl, rfl, hS'⟩
    obtain ⟨f1, f2, f3⟩ := fin ⟨4, ⟨#[]⟩, ⟨#[]⟩, t, t'⟩ b' (fun q e1 e2 => by
      have := hF q e1 e2
      rw [h5'] at this
      obtain ⟨z1, z2, z3, z4⟩ := rec_sizes e1
      rcases rec_shape e1 with ⟨e, e3, e4⟩ | ⟨e, e3, e4⟩ | ⟨e, e3, e4⟩ | ⟨e, e3, e4⟩
      · rw [e] at this; simp at this
      · rw [e] at this; simp at this
      · rw [e] at this; simp at this
      · obtain ⟨y1, y2, y3⟩ := scan2 hS hS' (by rw [← e4]; exact bs_recT e1 e2) z3 z4
        exact ⟨y3, by rw [e3, y1, y2]⟩)
    conv => whnf
    refine br2 (fun h3 => ?_) (fun h3 => ?_)
    · conv => whnf
      exact ⟨⟨rfl, rec0, false, rfl, f1 h3⟩⟩
    · conv => whnf
      refine ⟨⟨4, ⟨#[]⟩, ⟨#[]⟩, t, t'⟩, rfl, ?_⟩
      rintro _ _ ⟨rfl, rfl⟩
      conv => whnf
      refine br2 (fun h4 => ?_) (fun h4 => ?_)
      · conv => whnf
        exact ⟨⟨rfl, rec0, false, rfl, f2 h3 h4⟩⟩
      · conv => whnf
        exact ⟨⟨rfl, _, true, rfl, f3 h3 h4⟩⟩
  · have h5' : bt s 0 ≠ 120 := by simpa using h5
    conv => whnf
    refine ⟨rec0, rfl, ?_⟩
    rintro _ _ ⟨rfl, rfl⟩
    conv => whnf
    have hno : TextRecR s rec0 false := textRec_none fun q e1 e2 => by
      have := hF q e1 e2
      rcases recOk_kind e1 with e | e | e | e <;> (rw [e] at this; simp at this; omega)
    refine br2 (fun h6 => ?_) (fun h6 => ?_)
    · conv => whnf
      exact ⟨⟨rfl, rec0, false, rfl, hno⟩⟩
    · exfalso
      have h6' : recT rec0 = s := by
        replace h6 : (!strEq (recT rec0) s) = false := h6
        rwa [Bool.not_eq_false', strEq_iff] at h6
      have : recT rec0 = ⟨#[]⟩ := by unfold recT; rw [if_neg (by simp [recOkB, rec0])]
      exact hne (h6'.symm.trans this)
theorem iTextRec_ok : FnOk Try.prog 25 cTextRec := fnOk_of fun x => fn_at tab_ok (SOk.cons scanText_ok (SOk.cons iRecText_ok SOk.nil)) mixed (fn := Try.f25) (code := body Try.f25) ⟨Try.func25, rfl, by kernel_rfl, by kernel_rfl, by kernel_rfl, by kernel_rfl⟩ (ev_iTextRec x)

/-- The kind that the first byte tells, of those below k. -/
def KindR (s : ByteArray) (k : Nat) (K : Int) : Prop := ∀ q, recOkB q = true → recT q = s → (q.kind < k → K = q.kind) ∧ ((k : Int) ≤ q.kind → K = 0)
theorem ev_sTextRec : ∀ x, evFn tab [(77, cGetText), (78, cRecText)] cTextRec Try.f24 (body Try.f24) x := by
  rintro ⟨s, hs⟩
  conv => whnf
  have hF : ∀ q, recOkB q = true → recT q = s → bt s 0 = (if q.kind = 1 then 119 else if q.kind = 2 then 103 else if q.kind = 3 then 115 else 120) := fun q e1 e2 => rec_first e1 e2
  refine ⟨fun m st h => ∃ (k : Nat) (K : Int), 1 ≤ k ∧ k ≤ 5 ∧ m = 5 - k ∧ KindR s k K ∧
      st = [(0, .lf (.string s)), (2, .pt 32 0 0), (4, .pt 64 0 0), (5, .lf (.int .i64 k))] ∧ h = [(64, some (.arr true 5 [[.lf (.int .i64 K), .lf (.string ⟨#[]⟩), .lf (.string ⟨#[]⟩), .lf (.string ⟨#[]⟩), .lf (.string ⟨#[]⟩)]])), (32, some (.arr true 5 [[.lf (.int .i64 0), .lf (.string ⟨#[]⟩), .lf (.string ⟨#[]⟩), .lf (.string ⟨#[]⟩), .lf (.string ⟨#[]⟩)]]))],
    4, [(64, 64), (32, 32)], [(0, .lf (.string s)), (2, .pt 32 0 0), (4, .pt 64 0 0), (5, .lf (.int .i64 1))], [(64, some (.arr true 5 [[.lf (.int .i64 0), .lf (.string ⟨#[]⟩), .lf (.string ⟨#[]⟩), .lf (.string ⟨#[]⟩), .lf (.string ⟨#[]⟩)]])), (32, some (.arr true 5 [[.lf (.int .i64 0), .lf (.string ⟨#[]⟩), .lf (.string ⟨#[]⟩), .lf (.string ⟨#[]⟩), .lf (.string ⟨#[]⟩)]]))],
    ⟨rfl, ⟨rfl, rfl, rfl, rfl, trivial⟩, ⟨rfl, rfl, trivial⟩⟩, ⟨1, 0, by omega, by omega, rfl, fun q e1 e2 => ?_, rfl, rfl⟩, ?_⟩
  · rcases recOk_kind e1 with e | e | e | e <;> rw [e] <;> simp
  rintro m _ _ ⟨k, K, hk1, hk2, rfl, hK, rfl, rfl⟩
  conv => whnf
  refine br2 (fun h1 => ?_) (fun h1 => ?_)
  · have h1' : k ≤ 4 := by have := of_decide_eq_true h1; omega
    have hcode : ∀ q, recOkB q = true → recT q = s → (bt s 0 = bt ⟨#[32, 119, 103, 115, 120]⟩ k ↔ q.kind = k) := by
      intro q e1 e2
      rw [hF q e1 e2]
      rcases (show k = 1 ∨ k = 2 ∨ k = 3 ∨ k = 4 by omega) with rfl | rfl | rfl | rfl <;> rcases recOk_kind e1 with e | e | e | e <;> rw [e] <;> decide
    have hnext : ∀ q, recOkB q = true → recT q = s → s ≠ ⟨#[]⟩ := fun q e1 e2 e3 => by
      have h3 : bs s = recB q := bs_recT e1 e2
      have := recB_ne q
      rw [← h3, e3] at this
      simp [bs] at this
    have hw : IntKind.i64.wrap ((k : Int) + 1) = ((k + 1 : Nat) : Int) := by rw [w64 (by omega) (by omega)]; rfl
    have step0 : (∀ q, recOkB q = true → recT q = s → q.kind ≠ k) → KindR s (k + 1) K := fun hne q e1 e2 => by
      have := hne q e1 e2
      obtain ⟨a1, a2⟩ := hK q e1 e2
      exact ⟨fun h => a1 (by omega), fun h => a2 (by omega)⟩
    have step1 : (bt s 0 = bt ⟨#[32, 119, 103, 115, 120]⟩ k) → KindR s (k + 1) k := fun hb q e1 e2 => by
      have := (hcode q e1 e2).1 hb
      exact ⟨fun _ => this.symm, fun h => by omega⟩
    conv => whnf
    refine br2 (fun h2 => ?_) (fun h2 => ?_)
    · have hne : s ≠ ⟨#[]⟩ := by rwa [Bool.not_eq_true', strEq_no] at h2
      have := of_ne hne
      conv => whnf
      refine ⟨by decide, ?_, ?_⟩
      · show (0 : Int) < s.size; omega
      conv => whnf
      refine ⟨by omega, ?_, ?_⟩
      · show (k : Int) < 5; omega
      conv => whnf
      refine br2 (fun h3 => ?_) (fun h3 => ?_)
      · conv => whnf
        refine ⟨5 - (k + 1), [(64, 64), (32, 32)], [(0, .lf (.string s)), (2, .pt 32 0 0), (4, .pt 64 0 0), (5, .lf (.int .i64 ((k + 1 : Nat) : Int)))], [(64, some (.arr true 5 [[.lf (.int .i64 k), .lf (.string ⟨#[]⟩), .lf (.string ⟨#[]⟩), .lf (.string ⟨#[]⟩), .lf (.string ⟨#[]⟩)]])), (32, some (.arr true 5 [[.lf (.int .i64 0), .lf (.string ⟨#[]⟩), .lf (.string ⟨#[]⟩), .lf (.string ⟨#[]⟩), .lf (.string ⟨#[]⟩)]]))], by omega, ⟨rfl, ⟨rfl, rfl, rfl, ?_, trivial⟩, ⟨rfl, rfl, trivial⟩⟩, k + 1, k, by omega, by omega, rfl, step1 (eq_of_beq h3), rfl, rfl⟩
        show V.lf (.int .i64 (IntKind.i64.wrap ((k : Int) + 1))) = _
        rw [hw]
      · conv => whnf
        refine ⟨5 - (k + 1), [(64, 64), (32, 32)], [(0, .lf (.string s)), (2, .pt 32 0 0), (4, .pt 64 0 0), (5, .lf (.int .i64 ((k + 1 : Nat) : Int)))], [(64, some (.arr true 5 [[.lf (.int .i64 K), .lf (.string ⟨#[]⟩), .lf (.string ⟨#[]⟩), .lf (.string ⟨#[]⟩), .lf (.string ⟨#[]⟩)]])), (32, some (.arr true 5 [[.lf (.int .i64 0), .lf (.string ⟨#[]⟩), .lf (.string ⟨#[]⟩), .lf (.string ⟨#[]⟩), .lf (.string ⟨#[]⟩)]]))], by omega, ⟨rfl, ⟨rfl, rfl, rfl, ?_, trivial⟩, ⟨rfl, rfl, trivial⟩⟩, k + 1, K, by omega, by omega, rfl, step0 (fun q e1 e2 e3 => ?_), rfl, rfl⟩
        · show V.lf (.int .i64 (IntKind.i64.wrap ((k : Int) + 1))) = _
          rw [hw]
        · have := (hcode q e1 e2).2 e3
          have h3' : ¬ bt s 0 = bt ⟨#[32, 119, 103, 115, 120]⟩ k := fun e => by
            replace h3 : (bt s 0 == bt ⟨#[32, 119, 103, 115, 120]⟩ k) = false := h3
            rw [e] at h3; simp at h3
          exact h3' this
    · conv => whnf
      refine ⟨5 - (k + 1), [(64, 64), (32, 32)], [(0, .lf (.string s)), (2, .pt 32 0 0), (4, .pt 64 0 0), (5, .lf (.int .i64 ((k + 1 : Nat) : Int)))], [(64, some (.arr true 5 [[.lf (.int .i64 K), .lf (.string ⟨#[]⟩), .lf (.string ⟨#[]⟩), .lf (.string ⟨#[]⟩), .lf (.string ⟨#[]⟩)]])), (32, some (.arr true 5 [[.lf (.int .i64 0), .lf (.string ⟨#[]⟩), .lf (.string ⟨#[]⟩), .lf (.string ⟨#[]⟩), .lf (.string ⟨#[]⟩)]]))], by omega, ⟨rfl, ⟨rfl, rfl, rfl, ?_, trivial⟩, ⟨rfl, rfl, trivial⟩⟩, k + 1, K, by omega, by omega, rfl, step0 (fun q e1 e2 e3 => ?_), rfl, rfl⟩
      · show V.lf (.int .i64 (IntKind.i64.wrap ((k : Int) + 1))) = _
        rw [hw]
      · have h2' : s = ⟨#[]⟩ := by rwa [Bool.not_eq_false', strEq_iff] at h2
        exact hnext q e1 e2 h2'
  · have h1' : k = 5 := by have := of_decide_eq_false h1; omega
    subst h1'
    have hK' : ∀ q, recOkB q = true → recT q = s → K = q.kind := fun q e1 e2 => (hK q e1 e2).1 (by rcases recOk_kind e1 with e | e | e | e <;> rw [e] <;> decide)
    have hlen : (bs s).length ≤ 4294967296 := by rw [bs_len]; omega
    conv => whnf
    refine ⟨?_, ?_⟩
    · show s.size ≤ 4294967296; omega
    conv => whnf
    refine ⟨⟨bs s, 1, hlen, by decide, by decide⟩, rfl, ?_⟩
    rintro _ _ ⟨rfl, t, a, rfl, hG⟩
    have hG0 : a = -1 ∧ t = ⟨#[]⟩ ∨ (0 : Int) ≤ 1 ∧ 1 < a ∧ a ≤ (bs s).length ∧ t.size ≤ (bs s).length := hG.1
    conv => whnf
    refine ⟨?_, ?_⟩
    · show s.size ≤ 4294967296; omega
    conv => whnf
    refine ⟨⟨bs s, a, hlen, by omega, by omega⟩, rfl, ?_⟩
    rintro _ _ ⟨rfl, t', a', rfl, hG'⟩
    have two : ∀ (c : UInt8) (x y : ByteArray), bs s = [c] ++ encT x ++ encT y → x.size ≤ 1099511627775 → y.size ≤ 1099511627775 → t = x ∧ t' = y := by
      intro c x y e1 e2 e3
      obtain ⟨y1, y2⟩ := hG.2 [c] x (encT y) e1 rfl e2
      obtain ⟨y3, y4⟩ := hG'.2 ([c] ++ encT x) y [] (by show bs s = _; rw [e1]; simp) (by show a = _; rw [y2]; simp; omega) e3
      exact ⟨y1, y3⟩
    have one : ∀ (c : UInt8) (x : ByteArray), bs s = [c] ++ encT x → x.size ≤ 1099511627775 → t = x := by
      intro c x e1 e2
      exact (hG.2 [c] x [] (by show bs s = _; rw [e1]; simp) rfl e2).1
    have hend : ∀ r : RecX, (∀ q, recOkB q = true → recT q = s → r = q) → (strEq s ⟨#[]⟩ = true → TextRecR s rec0 false) ∧ (strEq s ⟨#[]⟩ = false → (!strEq (recT r) s) = true → TextRecR s rec0 false) ∧ (strEq s ⟨#[]⟩ = false → (!strEq (recT r) s) = false → TextRecR s r true) := by
      intro r h
      refine ⟨fun he => textRec_none fun q e1 e2 => ?_, fun he hr => (textRec_end (strEq_no.1 he) h).2 (by rwa [Bool.not_eq_true', strEq_no] at hr), fun he hr => (textRec_end (strEq_no.1 he) h).1 (by rwa [Bool.not_eq_false', strEq_iff] at hr)⟩
      have h3 : bs s = recB q := bs_recT e1 e2
      have := recB_ne q
      rw [← h3, strEq_iff.1 he] at this
      simp [bs] at this
    conv => whnf
    refine br2 (fun h2 => ?_) (fun h2 => ?_)
    · have h2' := of_decide_eq_true h2
      obtain ⟨f1, f2, f3⟩ := hend ⟨K, ⟨#[]⟩, ⟨#[]⟩, t, t'⟩ (fun q e1 e2 => by
        have hk := hK' q e1 e2
        obtain ⟨z1, z2, z3, z4⟩ := rec_sizes e1
        rcases rec_shape e1 with ⟨e, e3, e4⟩ | ⟨e, e3, e4⟩ | ⟨e, e3, e4⟩ | ⟨e, e3, e4⟩
        · omega
        · omega
        · obtain ⟨y1, y2⟩ := two _ _ _ (by rw [← e4]; exact bs_recT e1 e2) z3 z4
          rw [e3, y1, y2, hk, e]
        · obtain ⟨y1, y2⟩ := two _ _ _ (by rw [← e4]; exact bs_recT e1 e2) z3 z4
          rw [e3, y1, y2, hk, e])
      conv => whnf
      refine br2 (fun h3 => ?_) (fun h3 => ?_)
      · conv => whnf
        exact ⟨⟨rfl, rec0, false, rfl, f1 h3⟩⟩
      · conv => whnf
        refine ⟨⟨K, ⟨#[]⟩, ⟨#[]⟩, t, t'⟩, rfl, ?_⟩
        rintro _ _ ⟨rfl, rfl⟩
        conv => whnf
        refine br2 (fun h4 => ?_) (fun h4 => ?_)
        · conv => whnf
          exact ⟨⟨rfl, rec0, false, rfl, f2 h3 h4⟩⟩
        · conv => whnf
          exact ⟨⟨rfl, _, true, rfl, f3 h3 h4⟩⟩
    · have h2' := of_decide_eq_false h2
      conv => whnf
      refine br2 (fun h5 => ?_) (fun h5 => ?_)
      · have h5' : K = 1 := eq_of_beq h5
        obtain ⟨f1, f2, f3⟩ := hend ⟨K, t, t', ⟨#[]⟩, ⟨#[]⟩⟩ (fun q e1 e2 => by
          have hk := hK' q e1 e2
          obtain ⟨z1, z2, z3, z4⟩ := rec_sizes e1
          rcases rec_shape e1 with ⟨e, e3, e4⟩ | ⟨e, e3, e4⟩ | ⟨e, e3, e4⟩ | ⟨e, e3, e4⟩
          · obtain ⟨y1, y2⟩ := two _ _ _ (by rw [← e4]; exact bs_recT e1 e2) z1 z2
            rw [e3, y1, y2, hk, e]
          all_goals omega)
        conv => whnf
        refine br2 (fun h3 => ?_) (fun h3 => ?_)
        · conv => whnf
          exact ⟨⟨rfl, rec0, false, rfl, f1 h3⟩⟩
        · conv => whnf
          refine ⟨⟨K, t, t', ⟨#[]⟩, ⟨#[]⟩⟩, rfl, ?_⟩
          rintro _ _ ⟨rfl, rfl⟩
          conv => whnf
          refine br2 (fun h4 => ?_) (fun h4 => ?_)
          · conv => whnf
            exact ⟨⟨rfl, rec0, false, rfl, f2 h3 h4⟩⟩
          · conv => whnf
            exact ⟨⟨rfl, _, true, rfl, f3 h3 h4⟩⟩
      · have h5' : K ≠ 1 := by intro e; rw [e] at h5; simp at h5
        obtain ⟨f1, f2, f3⟩ := hend ⟨K, t, ⟨#[]⟩, ⟨#[]⟩, ⟨#[]⟩⟩ (fun q e1 e2 => by
          have hk := hK' q e1 e2
          obtain ⟨z1, z2, z3, z4⟩ := rec_sizes e1
          rcases rec_shape e1 with ⟨e, e3, e4⟩ | ⟨e, e3, e4⟩ | ⟨e, e3, e4⟩ | ⟨e, e3, e4⟩
          · omega
          · have y1 := one _ _ (by rw [← e4]; exact bs_recT e1 e2) z1
            rw [e3, y1, hk, e]
          all_goals omega)
        conv => whnf
        refine br2 (fun h3 => ?_) (fun h3 => ?_)
        · conv => whnf
          exact ⟨⟨rfl, rec0, false, rfl, f1 h3⟩⟩
        · conv => whnf
          refine ⟨⟨K, t, ⟨#[]⟩, ⟨#[]⟩, ⟨#[]⟩⟩, rfl, ?_⟩
          rintro _ _ ⟨rfl, rfl⟩
          conv => whnf
          refine br2 (fun h4 => ?_) (fun h4 => ?_)
          · conv => whnf
            exact ⟨⟨rfl, rec0, false, rfl, f2 h3 h4⟩⟩
          · conv => whnf
            exact ⟨⟨rfl, _, true, rfl, f3 h3 h4⟩⟩
theorem sTextRec_ok : FnOk Try.prog 24 cTextRec := fnOk_of fun x => fn_at tab_ok (SOk.cons sGetText_ok (SOk.cons sRecText_ok SOk.nil)) mixed (fn := Try.f24) (code := body Try.f24) ⟨Try.func24, rfl, by kernel_rfl, by kernel_rfl, by kernel_rfl, by kernel_rfl⟩ (ev_sTextRec x)
def cTrue1 : Con := pureC StrX [(.rd, false)] [false] (fun x => [[.lf (.string x.s)]]) (fun _ => [[.lf (.bool true)]])
/-- Any text. -/
def cLawS : Con := pureC ByteArray [(.rd, false)] [false] (fun s => [[.lf (.string s)]]) (fun _ => [[.lf (.bool true)]])
theorem ev_lawTextRec : ∀ x, evFn tab [(24, cTextRec), (25, cTextRec), (26, cEqRec)] cLawS Try.f5 (body Try.f5) x := by
  intro s
  conv => whnf
  refine br2 (fun h1 => ?_) (fun h1 => ?_)
  · conv => whnf
    exact ⟨⟨rfl, rfl⟩⟩
  have h1' : s.size ≤ 1048576 := by have := of_decide_eq_false h1; omega
  conv => whnf
  refine ⟨⟨s, by omega⟩, rfl, ?_⟩
  rintro _ _ ⟨rfl, q, ok, rfl, hq⟩
  conv => whnf
  refine ⟨⟨s, by omega⟩, rfl, ?_⟩
  rintro _ _ ⟨rfl, q', ok', rfl, hq'⟩
  obtain ⟨rfl, rfl⟩ := hq.same hq'
  conv => whnf
  refine ⟨(q, q), rfl, ?_⟩
  rintro _ _ ⟨rfl, rfl⟩
  conv => whnf
  refine br2 (fun h2 => ?_) (fun h2 => ?_)
  · exact absurd (h2 : (!eqX q q) = true) (by rw [eqX_refl]; simp)
  repeat' ((conv => whnf); refine br2 (fun h => absurd (h : (ok != ok) = true) (by simp)) (fun h => ?_))
  conv => whnf
  exact ⟨⟨rfl, rfl⟩⟩
theorem lawTextRec_ok : FnOk Try.prog 5 cLawS := fnOk_of fun x => fn_at tab_ok (SOk.cons sTextRec_ok (SOk.cons iTextRec_ok (SOk.cons eqRec_ok SOk.nil))) mixed (fn := Try.f5) (code := body Try.f5) ⟨Try.func5, rfl, by kernel_rfl, by kernel_rfl, by kernel_rfl, by kernel_rfl⟩ (ev_lawTextRec x)
end Go.Vm
namespace Go.Vm
open Go.Proofs
set_option maxRecDepth 100000
set_option linter.unusedVariables false
set_option linter.unusedSimpArgs false

structure TxX where
  c : Int
  e : Int
  n : Int
def TxX.ds (x : TxX) : List D := [.lf (.int .i64 x.c), .lf (.int .i64 x.e), .lf (.int .i64 x.n)]
structure RngX where
  lo : ByteArray
  hi : ByteArray
def RngX.ds (x : RngX) : List D := [.lf (.string x.lo), .lf (.string x.hi)]
structure LockX where
  tx : TxX
  rng : RngX
  ex : Bool
def LockX.ds (x : LockX) : List D := [.lf (.int .i64 x.tx.c), .lf (.int .i64 x.tx.e), .lf (.int .i64 x.tx.n), .lf (.string x.rng.lo), .lf (.string x.rng.hi), .lf (.bool x.ex)]
theorem LockX.len (x : LockX) : x.ds.length = 6 := rfl
theorem LockX.flat (x : LockX) : flatL x.ds = true := rfl

/-- A copy of a struct; of a slice; whether two are alike; how large one is. -/
def cCopy {X : Type} (ds : X → List D) : Con := pureC X [(.rd, true)] [true] (fun x => [ds x]) (fun x => [ds x])
noncomputable def cEq {X : Type} (ds : X → List D) : Con := pureC (X × X) [(.rd, true), (.rd, true)] [false] (fun x => [ds x.1, ds x.2]) (fun x => [[.lf (.bool (eqX x.1 x.2))]])
structure LstX (X : Type) where
  l : List X
  hl : l.length ≤ 1048576
def cCopyS {X : Type} (sz : Nat) (ds : X → List D) : Con := pureC (LstX X) [(.rd, false)] [false] (fun x => [[.row sz ds x.l]]) (fun x => [[.row sz ds x.l]])
noncomputable def cEqS {X : Type} (sz : Nat) (ds : X → List D) : Con := pureC (List X × List X) [(.rd, false), (.rd, false)] [false] (fun x => [[.row sz ds x.1], [.row sz ds x.2]]) (fun x => [[.lf (.bool (eqX x.1 x.2))]])
structure SzX (X : Type) (B0 : X → Prop) where
  x : X
  left : Int
  h1 : 0 ≤ left
  h2 : left ≤ 1048576
  hb : B0 x
/-- What is left behind a struct or a slice is not more; where it is no less than nothing, the sizes fit. -/
def cSz {X : Type} (ds : X → List D) (B0 B : X → Prop) : Con := relC (SzX X B0) [(.rd, true), (.rd, false)] [false] (fun x => [ds x.x, [.lf (.int .i64 x.left)]]) (fun x r => ∃ k : Int, r = [[.lf (.int .i64 k)]] ∧ -1 ≤ k ∧ k ≤ x.left ∧ (0 ≤ k → B x.x))
def cSzS {X : Type} (sz : Nat) (ds : X → List D) (B0 B : X → Prop) : Con := relC (SzX (List X) fun l => l.length ≤ 9223372036854775807 ∧ ∀ y ∈ l, B0 y) [(.rd, false), (.rd, false)] [false] (fun x => [[.row sz ds x.x], [.lf (.int .i64 x.left)]])
  (fun x r => ∃ k : Int, r = [[.lf (.int .i64 k)]] ∧ -1 ≤ k ∧ k ≤ x.left ∧ (0 ≤ k → x.x.length + k ≤ x.left ∧ ∀ y ∈ x.x, B y))
def maxS : Nat := 9223372036854775807
def rngB0 (x : RngX) : Prop := x.lo.size ≤ maxS ∧ x.hi.size ≤ maxS
def rngB (x : RngX) : Prop := x.lo.size ≤ 1048576 ∧ x.hi.size ≤ 1048576
def lockB0 (x : LockX) : Prop := rngB0 x.rng
def lockB (x : LockX) : Prop := rngB x.rng
theorem ev_szRange : ∀ x, evFn tab [] (cSz RngX.ds rngB0 rngB) Try.f40 (body Try.f40) x := by
  rintro ⟨⟨lo, hi⟩, left, h1, h2, hb1, hb2⟩
  replace hb1 : lo.size ≤ 9223372036854775807 := hb1
  replace hb2 : hi.size ≤ 9223372036854775807 := hb2
  conv => whnf
  have e1 : IntKind.i64.wrap (left - (lo.size : Int)) = left - lo.size := w64 (by omega) (by omega)
  refine br2 (fun h3 => ?_) (fun h3 => ?_)
  · conv => whnf
    exact ⟨⟨rfl, -1, rfl, by omega, (show (-1 : Int) ≤ left by omega), fun h => by omega⟩⟩
  · replace h3 : decide (IntKind.i64.wrap (left - (lo.size : Int)) < 0) = false := h3
    rw [e1] at h3
    have h3' := of_decide_eq_false h3
    conv => whnf
    have e2 : IntKind.i64.wrap (IntKind.i64.wrap (left - (lo.size : Int)) - (hi.size : Int)) = left - lo.size - hi.size := by rw [e1]; exact w64 (by omega) (by omega)
    refine br2 (fun h4 => ?_) (fun h4 => ?_)
    · conv => whnf
      exact ⟨⟨rfl, -1, rfl, by omega, (show (-1 : Int) ≤ left by omega), fun h => by omega⟩⟩
    · replace h4 : decide (IntKind.i64.wrap (IntKind.i64.wrap (left - (lo.size : Int)) - (hi.size : Int)) < 0) = false := h4
      rw [e2] at h4
      have h4' := of_decide_eq_false h4
      conv => whnf
      refine ⟨⟨rfl, _, rfl, ?_, ?_, fun _ => (⟨by omega, by omega⟩ : lo.size ≤ 1048576 ∧ hi.size ≤ 1048576)⟩⟩
      · show -1 ≤ IntKind.i64.wrap (IntKind.i64.wrap (left - (lo.size : Int)) - (hi.size : Int))
        rw [e2]; omega
      · show IntKind.i64.wrap (IntKind.i64.wrap (left - (lo.size : Int)) - (hi.size : Int)) ≤ left
        rw [e2]; omega
theorem szRange_ok : FnOk Try.prog 40 (cSz RngX.ds rngB0 rngB) := fnOk_of fun x => fn_at tab_ok (SOk.nil) mixed (fn := Try.f40) (code := body Try.f40) ⟨Try.func40, rfl, by kernel_rfl, by kernel_rfl, by kernel_rfl, by kernel_rfl⟩ (ev_szRange x)
theorem ev_szLock : ∀ x, evFn tab [(40, (cSz RngX.ds rngB0 rngB))] (cSz LockX.ds lockB0 lockB) Try.f132 (body Try.f132) x := by
  rintro ⟨x, left, h1, h2, hb⟩
  conv => whnf
  refine ⟨⟨x.rng, left, h1, h2, hb⟩, rfl, ?_⟩
  rintro _ _ ⟨rfl, k, rfl, k1, k2, k3⟩
  replace k2 : k ≤ left := k2
  conv => whnf
  refine br2 (fun h3 => ?_) (fun h3 => ?_)
  · conv => whnf
    exact ⟨⟨rfl, -1, rfl, by omega, (show (-1 : Int) ≤ left by omega), fun h => by omega⟩⟩
  · conv => whnf
    exact ⟨⟨rfl, k, rfl, k1, k2, k3⟩⟩
theorem szLock_ok : FnOk Try.prog 132 (cSz LockX.ds lockB0 lockB) := fnOk_of fun x => fn_at tab_ok (SOk.cons szRange_ok SOk.nil) mixed (fn := Try.f132) (code := body Try.f132) ⟨Try.func132, rfl, by kernel_rfl, by kernel_rfl, by kernel_rfl, by kernel_rfl⟩ (ev_szLock x)
theorem ev_szPair : ∀ x, evFn tab [] (cSz RngX.ds rngB0 rngB) Try.f144 (body Try.f144) x := by
  rintro ⟨⟨lo, hi⟩, left, h1, h2, hb1, hb2⟩
  replace hb1 : lo.size ≤ 9223372036854775807 := hb1
  replace hb2 : hi.size ≤ 9223372036854775807 := hb2
  conv => whnf
  have e1 : IntKind.i64.wrap (left - (lo.size : Int)) = left - lo.size := w64 (by omega) (by omega)
  refine br2 (fun h3 => ?_) (fun h3 => ?_)
  · conv => whnf
    exact ⟨⟨rfl, -1, rfl, by omega, (show (-1 : Int) ≤ left by omega), fun h => by omega⟩⟩
  · replace h3 : decide (IntKind.i64.wrap (left - (lo.size : Int)) < 0) = false := h3
    rw [e1] at h3
    have h3' := of_decide_eq_false h3
    conv => whnf
    have e2 : IntKind.i64.wrap (IntKind.i64.wrap (left - (lo.size : Int)) - (hi.size : Int)) = left - lo.size - hi.size := by rw [e1]; exact w64 (by omega) (by omega)
    refine br2 (fun h4 => ?_) (fun h4 => ?_)
    · conv => whnf
      exact ⟨⟨rfl, -1, rfl, by omega, (show (-1 : Int) ≤ left by omega), fun h => by omega⟩⟩
    · replace h4 : decide (IntKind.i64.wrap (IntKind.i64.wrap (left - (lo.size : Int)) - (hi.size : Int)) < 0) = false := h4
      rw [e2] at h4
      have h4' := of_decide_eq_false h4
      conv => whnf
      refine ⟨⟨rfl, _, rfl, ?_, ?_, fun _ => (⟨by omega, by omega⟩ : lo.size ≤ 1048576 ∧ hi.size ≤ 1048576)⟩⟩
      · show -1 ≤ IntKind.i64.wrap (IntKind.i64.wrap (left - (lo.size : Int)) - (hi.size : Int))
        rw [e2]; omega
      · show IntKind.i64.wrap (IntKind.i64.wrap (left - (lo.size : Int)) - (hi.size : Int)) ≤ left
        rw [e2]; omega
theorem szPair_ok : FnOk Try.prog 144 (cSz RngX.ds rngB0 rngB) := fnOk_of fun x => fn_at tab_ok (SOk.nil) mixed (fn := Try.f144) (code := body Try.f144) ⟨Try.func144, rfl, by kernel_rfl, by kernel_rfl, by kernel_rfl, by kernel_rfl⟩ (ev_szPair x)
theorem ev_szLockS : ∀ x, evFn tab [(132, (cSz LockX.ds lockB0 lockB))] (cSzS 6 LockX.ds lockB0 lockB) Try.f81 (body Try.f81) x := by
  rintro ⟨l, left, h1, h2, hb0, hb⟩
  replace hb0 : l.length ≤ 9223372036854775807 := hb0
  conv => whnf
  intro h3
  conv => whnf
  have e1 : IntKind.i64.wrap (left - (l.length : Int)) = left - l.length := w64 (by omega) (by omega)
  refine br2 (fun h4 => ?_) (fun h4 => ?_)
  · conv => whnf
    exact ⟨⟨rfl, -1, rfl, by omega, (show (-1 : Int) ≤ left by omega), fun h => by omega⟩⟩
  replace h4 : decide (IntKind.i64.wrap (left - (l.length : Int)) < 0) = false := h4
  rw [e1] at h4
  have h4' := of_decide_eq_false h4
  conv => whnf
  refine ⟨fun m s h => ∃ (i : Nat) (k : Int), i ≤ l.length ∧ 0 ≤ k ∧ k ≤ left - l.length ∧ (∀ j y, j < i → l[j]? = some y → lockB y) ∧ m = l.length - i ∧ s = [(0, .sl 0 none), (1, .lf (.int .i64 k)), (5, .lf (.int .i64 i))] ∧ h = [(0, some (.row .lent 6 LockX.ds l))],
    l.length, [(0, 0)], [(0, .sl 0 none), (1, .lf (.int .i64 (left - l.length))), (5, .lf (.int .i64 0))], [(0, some (.row .lent 6 LockX.ds l))], ⟨rfl, ⟨rfl, ?_, rfl, trivial⟩, ⟨rfl, trivial⟩⟩, ⟨0, left - l.length, by omega, by omega, by omega, fun j y h => by omega, by omega, rfl, rfl⟩, ?_⟩
  · show V.lf (.int .i64 (IntKind.i64.wrap (left - (l.length : Int)))) = _
    rw [e1]
  rintro m _ _ ⟨i, k, g1, g2, g3, g4, rfl, rfl, rfl⟩
  conv => whnf
  intro _
  conv => whnf
  refine br2 (fun h5 => ?_) (fun h5 => ?_)
  · have hi : i < l.length := by have := of_decide_eq_true h5; omega
    obtain ⟨y, hy⟩ : ∃ y, l[i]? = some y := ⟨_, List.getElem?_eq_getElem hi⟩
    have hy2 : nth l ((i : Nat) : Int).toNat = some y := by rw [nth_eq, Int.toNat_natCast]; exact hy
    conv => whnf
    refine ⟨Int.natCast_nonneg _, (show (i : Int) < (l.length : Int) by omega), ?_⟩
    conv => whnf
    refine ex2 y hy2 ?_
    conv => whnf
    refine ⟨⟨y, k, g2, by omega, hb y (List.mem_of_getElem? hy)⟩, rfl, ?_⟩
    rintro _ _ ⟨rfl, k', rfl, k1, k2, k3⟩
    replace k2 : k' ≤ k := k2
    conv => whnf
    refine br2 (fun h6 => ?_) (fun h6 => ?_)
    · conv => whnf
      exact ⟨⟨rfl, -1, rfl, by omega, (show (-1 : Int) ≤ left by omega), fun h => by omega⟩⟩
    · have h6' := of_decide_eq_false h6
      conv => whnf
      refine ⟨l.length - (i + 1), [(0, 0)], [(0, .sl 0 none), (1, .lf (.int .i64 k')), (5, .lf (.int .i64 ((i + 1 : Nat) : Int)))], [(0, some (.row .lent 6 LockX.ds l))], by omega, ⟨rfl, ⟨rfl, rfl, ?_, trivial⟩, ⟨rfl, trivial⟩⟩, i + 1, k', by omega, by omega, by omega, fun j z hj hz => ?_, rfl, rfl, rfl⟩
      · show V.lf (.int .i64 (IntKind.i64.wrap ((i : Int) + 1))) = _
        rw [w64 (by omega) (by omega)]; rfl
      · rcases Nat.lt_or_ge j i with h7 | h7
        · exact g4 j z h7 hz
        · obtain rfl : j = i := by omega
          rw [hy] at hz; cases hz; exact k3 (by omega)
  · have hi : i = l.length := by have := of_decide_eq_false h5; omega
    conv => whnf
    refine ⟨⟨rfl, k, rfl, by omega, (show k ≤ left by omega), fun _ => (⟨by omega, fun y hy => ?_⟩ : (l.length : Int) + k ≤ left ∧ ∀ y ∈ l, lockB y)⟩⟩
    obtain ⟨j, hj⟩ := List.getElem?_of_mem hy
    exact g4 j y (by rw [hi]; exact (List.getElem?_eq_some_iff.1 hj).1) hj
theorem szLockS_ok : FnOk Try.prog 81 (cSzS 6 LockX.ds lockB0 lockB) := fnOk_of fun x => fn_at tab_ok (SOk.cons szLock_ok SOk.nil) mixed (fn := Try.f81) (code := body Try.f81) ⟨Try.func81, rfl, by kernel_rfl, by kernel_rfl, by kernel_rfl, by kernel_rfl⟩ (ev_szLockS x)
theorem ev_szPairS : ∀ x, evFn tab [(144, (cSz RngX.ds rngB0 rngB))] (cSzS 2 RngX.ds rngB0 rngB) Try.f103 (body Try.f103) x := by
  rintro ⟨l, left, h1, h2, hb0, hb⟩
  replace hb0 : l.length ≤ 9223372036854775807 := hb0
  conv => whnf
  intro h3
  conv => whnf
  have e1 : IntKind.i64.wrap (left - (l.length : Int)) = left - l.length := w64 (by omega) (by omega)
  refine br2 (fun h4 => ?_) (fun h4 => ?_)
  · conv => whnf
    exact ⟨⟨rfl, -1, rfl, by omega, (show (-1 : Int) ≤ left by omega), fun h => by omega⟩⟩
  replace h4 : decide (IntKind.i64.wrap (left - (l.length : Int)) < 0) = false := h4
  rw [e1] at h4
  have h4' := of_decide_eq_false h4
  conv => whnf
  refine ⟨fun m s h => ∃ (i : Nat) (k : Int), i ≤ l.length ∧ 0 ≤ k ∧ k ≤ left - l.length ∧ (∀ j y, j < i → l[j]? = some y → rngB y) ∧ m = l.length - i ∧ s = [(0, .sl 0 none), (1, .lf (.int .i64 k)), (5, .lf (.int .i64 i))] ∧ h = [(0, some (.row .lent 2 RngX.ds l))],
    l.length, [(0, 0)], [(0, .sl 0 none), (1, .lf (.int .i64 (left - l.length))), (5, .lf (.int .i64 0))], [(0, some (.row .lent 2 RngX.ds l))], ⟨rfl, ⟨rfl, ?_, rfl, trivial⟩, ⟨rfl, trivial⟩⟩, ⟨0, left - l.length, by omega, by omega, by omega, fun j y h => by omega, by omega, rfl, rfl⟩, ?_⟩
  · show V.lf (.int .i64 (IntKind.i64.wrap (left - (l.length : Int)))) = _
    rw [e1]
  rintro m _ _ ⟨i, k, g1, g2, g3, g4, rfl, rfl, rfl⟩
  conv => whnf
  intro _
  conv => whnf
  refine br2 (fun h5 => ?_) (fun h5 => ?_)
  · have hi : i < l.length := by have := of_decide_eq_true h5; omega
    obtain ⟨y, hy⟩ : ∃ y, l[i]? = some y := ⟨_, List.getElem?_eq_getElem hi⟩
    have hy2 : nth l ((i : Nat) : Int).toNat = some y := by rw [nth_eq, Int.toNat_natCast]; exact hy
    conv => whnf
    refine ⟨Int.natCast_nonneg _, (show (i : Int) < (l.length : Int) by omega), ?_⟩
    conv => whnf
    refine ex2 y hy2 ?_
    conv => whnf
    refine ⟨⟨y, k, g2, by omega, hb y (List.mem_of_getElem? hy)⟩, rfl, ?_⟩
    rintro _ _ ⟨rfl, k', rfl, k1, k2, k3⟩
    replace k2 : k' ≤ k := k2
    conv => whnf
    refine br2 (fun h6 => ?_) (fun h6 => ?_)
    · conv => whnf
      exact ⟨⟨rfl, -1, rfl, by omega, (show (-1 : Int) ≤ left by omega), fun h => by omega⟩⟩
    · have h6' := of_decide_eq_false h6
      conv => whnf
      refine ⟨l.length - (i + 1), [(0, 0)], [(0, .sl 0 none), (1, .lf (.int .i64 k')), (5, .lf (.int .i64 ((i + 1 : Nat) : Int)))], [(0, some (.row .lent 2 RngX.ds l))], by omega, ⟨rfl, ⟨rfl, rfl, ?_, trivial⟩, ⟨rfl, trivial⟩⟩, i + 1, k', by omega, by omega, by omega, fun j z hj hz => ?_, rfl, rfl, rfl⟩
      · show V.lf (.int .i64 (IntKind.i64.wrap ((i : Int) + 1))) = _
        rw [w64 (by omega) (by omega)]; rfl
      · rcases Nat.lt_or_ge j i with h7 | h7
        · exact g4 j z h7 hz
        · obtain rfl : j = i := by omega
          rw [hy] at hz; cases hz; exact k3 (by omega)
  · have hi : i = l.length := by have := of_decide_eq_false h5; omega
    conv => whnf
    refine ⟨⟨rfl, k, rfl, by omega, (show k ≤ left by omega), fun _ => (⟨by omega, fun y hy => ?_⟩ : (l.length : Int) + k ≤ left ∧ ∀ y ∈ l, rngB y)⟩⟩
    obtain ⟨j, hj⟩ := List.getElem?_of_mem hy
    exact g4 j y (by rw [hi]; exact (List.getElem?_eq_some_iff.1 hj).1) hj
theorem szPairS_ok : FnOk Try.prog 103 (cSzS 2 RngX.ds rngB0 rngB) := fnOk_of fun x => fn_at tab_ok (SOk.cons szPair_ok SOk.nil) mixed (fn := Try.f103) (code := body Try.f103) ⟨Try.func103, rfl, by kernel_rfl, by kernel_rfl, by kernel_rfl, by kernel_rfl⟩ (ev_szPairS x)

theorem ev_toTx : ∀ x, evFn tab [] (cCopy TxX.ds) Try.f42 (body Try.f42) x := by
  intro x
  conv => whnf
  exact ⟨⟨rfl, rfl⟩⟩
theorem toTx_ok : FnOk Try.prog 42 (cCopy TxX.ds) := fnOk_of fun x => fn_at tab_ok (SOk.nil) mixed (fn := Try.f42) (code := body Try.f42) ⟨Try.func42, rfl, by kernel_rfl, by kernel_rfl, by kernel_rfl, by kernel_rfl⟩ (ev_toTx x)
theorem ev_toRange : ∀ x, evFn tab [] (cCopy RngX.ds) Try.f43 (body Try.f43) x := by
  intro x
  conv => whnf
  exact ⟨⟨rfl, rfl⟩⟩
theorem toRange_ok : FnOk Try.prog 43 (cCopy RngX.ds) := fnOk_of fun x => fn_at tab_ok (SOk.nil) mixed (fn := Try.f43) (code := body Try.f43) ⟨Try.func43, rfl, by kernel_rfl, by kernel_rfl, by kernel_rfl, by kernel_rfl⟩ (ev_toRange x)
theorem ev_toPair : ∀ x, evFn tab [] (cCopy RngX.ds) Try.f145 (body Try.f145) x := by
  intro x
  conv => whnf
  exact ⟨⟨rfl, rfl⟩⟩
theorem toPair_ok : FnOk Try.prog 145 (cCopy RngX.ds) := fnOk_of fun x => fn_at tab_ok (SOk.nil) mixed (fn := Try.f145) (code := body Try.f145) ⟨Try.func145, rfl, by kernel_rfl, by kernel_rfl, by kernel_rfl, by kernel_rfl⟩ (ev_toPair x)
theorem ev_toLock : ∀ x, evFn tab [(42, (cCopy TxX.ds)), (43, (cCopy RngX.ds))] (cCopy LockX.ds) Try.f134 (body Try.f134) x := by
  intro x
  conv => whnf
  refine ⟨x.tx, rfl, ?_⟩
  rintro _ _ ⟨rfl, rfl⟩
  conv => whnf
  refine ⟨x.rng, rfl, ?_⟩
  rintro _ _ ⟨rfl, rfl⟩
  conv => whnf
  exact ⟨⟨rfl, rfl⟩⟩
theorem toLock_ok : FnOk Try.prog 134 (cCopy LockX.ds) := fnOk_of fun x => fn_at tab_ok (SOk.cons toTx_ok (SOk.cons toRange_ok SOk.nil)) mixed (fn := Try.f134) (code := body Try.f134) ⟨Try.func134, rfl, by kernel_rfl, by kernel_rfl, by kernel_rfl, by kernel_rfl⟩ (ev_toLock x)
theorem ev_eqTx : ∀ x, evFn tab [] (cEq TxX.ds) Try.f75 (body Try.f75) x := by
  rintro ⟨⟨a, b, c⟩, ⟨d, e, f⟩⟩
  repeat' ((conv => whnf); refine br2 (fun h => ?_) (fun h => ?_))
  all_goals (conv => whnf)
  all_goals refine ⟨⟨rfl, ?_⟩⟩
  all_goals show _ = [[D.lf (.bool (eqX (⟨a, b, c⟩ : TxX) ⟨d, e, f⟩))]]
  all_goals congr 4
  all_goals rw [eq_comm]
  all_goals simp_all [eqX_iff, eqX_no]
theorem eqTx_ok : FnOk Try.prog 75 (cEq TxX.ds) := fnOk_of fun x => fn_at tab_ok (SOk.nil) mixed (fn := Try.f75) (code := body Try.f75) ⟨Try.func75, rfl, by kernel_rfl, by kernel_rfl, by kernel_rfl, by kernel_rfl⟩ (ev_eqTx x)
theorem ev_eqPair : ∀ x, evFn tab [] (cEq RngX.ds) Try.f150 (body Try.f150) x := by
  rintro ⟨⟨a, b⟩, ⟨c, d⟩⟩
  repeat' ((conv => whnf); refine br2 (fun h => ?_) (fun h => ?_))
  all_goals (conv => whnf)
  all_goals refine ⟨⟨rfl, ?_⟩⟩
  all_goals show _ = [[D.lf (.bool (eqX (⟨a, b⟩ : RngX) ⟨c, d⟩))]]
  all_goals congr 4
  all_goals rw [eq_comm]
  all_goals simp_all [eqX_iff, eqX_no, strEq_iff, strEq_no]
theorem eqPair_ok : FnOk Try.prog 150 (cEq RngX.ds) := fnOk_of fun x => fn_at tab_ok (SOk.nil) mixed (fn := Try.f150) (code := body Try.f150) ⟨Try.func150, rfl, by kernel_rfl, by kernel_rfl, by kernel_rfl, by kernel_rfl⟩ (ev_eqPair x)
theorem ev_eqLock : ∀ x, evFn tab [(75, (cEq TxX.ds)), (80, cEqRange)] (cEq LockX.ds) Try.f116 (body Try.f116) x := by
  rintro ⟨⟨x, ⟨a, b⟩, e⟩, ⟨y, ⟨c, d⟩, f⟩⟩
  repeat' ((conv => whnf); first | refine br2 (fun h => ?_) (fun h => ?_) | (refine ⟨(x, y), rfl, ?_⟩; rintro _ _ ⟨rfl, rfl⟩) | (refine ⟨⟨a, b, c, d⟩, rfl, ?_⟩; rintro _ _ ⟨rfl, rfl⟩))
  all_goals (conv => whnf)
  all_goals refine ⟨⟨rfl, ?_⟩⟩
  all_goals show _ = [[D.lf (.bool (eqX (⟨x, ⟨a, b⟩, e⟩ : LockX) ⟨y, ⟨c, d⟩, f⟩))]]
  all_goals congr 4
  all_goals rw [eq_comm]
  all_goals simp_all [eqX_iff, eqX_no, strEq_iff, strEq_no]
  exact fun e1 e2 _ => h.elim (fun h => h e1) (fun h => h e2)
theorem eqLock_ok : FnOk Try.prog 116 (cEq LockX.ds) := fnOk_of fun x => fn_at tab_ok (SOk.cons eqTx_ok (SOk.cons eqRange_ok SOk.nil)) mixed (fn := Try.f116) (code := body Try.f116) ⟨Try.func116, rfl, by kernel_rfl, by kernel_rfl, by kernel_rfl, by kernel_rfl⟩ (ev_eqLock x)
def rng0 : RngX := ⟨⟨#[]⟩, ⟨#[]⟩⟩
def lock0 : LockX := ⟨⟨0, 0, 0⟩, ⟨⟨#[]⟩, ⟨#[]⟩⟩, false⟩
theorem set_at {α : Type} {l : List α} {i j : Nat} {y : α} (hi : i < l.length) : (l.set i y)[j]? = if i = j then some y else l[j]? := by
  rw [List.getElem?_set]
  split
  · rename_i e; subst e; simp [hi]
  · rfl
theorem ev_toLockS : ∀ x, evFn tab [(134, (cCopy LockX.ds))] (cCopyS 6 LockX.ds) Try.f85 (body Try.f85) x := by
  rintro ⟨l, hl⟩
  conv => whnf
  intro h1
  conv => whnf
  refine ⟨Int.natCast_nonneg _, rfl, ?_, ?_⟩
  · show (l.length : Int) ≤ (4294967296 : Nat); omega
  conv => whnf
  refine ⟨LockX, LockX.ds, lock0, fun _ => rfl, rfl, ?_⟩
  conv => whnf
  refine ⟨fun m s h => ∃ (i : Nat) (l' : List LockX), i ≤ l.length ∧ l'.length = l.length ∧ (∀ j, j < i → l'[j]? = l[j]?) ∧ m = l.length - i ∧ s = [(0, .sl 0 none), (3, .sl 112 none), (4, .lf (.int .i64 i))] ∧ h = [(112, some (.row .own 6 LockX.ds l')), (0, some (.row .lent 6 LockX.ds l))],
    l.length, [(112, 112), (0, 0)], [(0, .sl 0 none), (3, .sl 112 none), (4, .lf (.int .i64 0))], [(112, some (.row .own 6 LockX.ds (List.replicate (l.length : Int).toNat lock0))), (0, some (.row .lent 6 LockX.ds l))], ⟨rfl, ⟨rfl, rfl, rfl, trivial⟩, ⟨rfl, rfl, trivial⟩⟩,
    ⟨0, _, by omega, by rw [List.length_replicate, Int.toNat_natCast], fun j h => by omega, by omega, rfl, rfl⟩, ?_⟩
  rintro m _ _ ⟨i, l', g1, g2, g3, rfl, rfl, rfl⟩
  conv => whnf
  intro _
  conv => whnf
  refine br2 (fun h5 => ?_) (fun h5 => ?_)
  · have hi : i < l.length := by have := of_decide_eq_true h5; omega
    obtain ⟨y, hy⟩ : ∃ y, l[i]? = some y := ⟨_, List.getElem?_eq_getElem hi⟩
    have hy2 : nth l ((i : Nat) : Int).toNat = some y := by rw [nth_eq, Int.toNat_natCast]; exact hy
    obtain ⟨z, hz⟩ : ∃ z, l'[i]? = some z := ⟨_, List.getElem?_eq_getElem (by omega)⟩
    have hz2 : nth l' ((i : Nat) : Int).toNat = some z := by rw [nth_eq, Int.toNat_natCast]; exact hz
    conv => whnf
    refine ⟨Int.natCast_nonneg _, (show (i : Int) < (l.length : Int) by omega), ?_⟩
    conv => whnf
    refine ex2 y hy2 ?_
    conv => whnf
    refine ⟨y, rfl, ?_⟩
    rintro _ _ ⟨rfl, rfl⟩
    conv => whnf
    refine ⟨Int.natCast_nonneg _, (show (i : Int) < (l'.length : Int) by omega), ?_⟩
    conv => whnf
    refine ex2 z hz2 ?_
    conv => whnf
    refine ⟨y, rfl, ?_⟩
    conv => whnf
    refine ⟨l.length - (i + 1), [(112, 112), (0, 0)], [(0, .sl 0 none), (3, .sl 112 none), (4, .lf (.int .i64 ((i + 1 : Nat) : Int)))], [(112, some (.row .own 6 LockX.ds (l'.set (i : Int).toNat y))), (0, some (.row .lent 6 LockX.ds l))], by omega, ⟨rfl, ⟨rfl, rfl, ?_, trivial⟩, ⟨rfl, rfl, trivial⟩⟩, i + 1, _, by omega, ?_, fun j hj => ?_, rfl, rfl, rfl⟩
    · show V.lf (.int .i64 (IntKind.i64.wrap ((i : Int) + 1))) = _
      rw [w64 (by omega) (by omega)]; rfl
    · rw [List.length_set]; exact g2
    · rw [Int.toNat_natCast, set_at (by omega)]
      split
      · rename_i e; subst e; exact hy.symm
      · exact g3 j (by omega)
  · have hi : i = l.length := by have := of_decide_eq_false h5; omega
    conv => whnf
    refine ⟨⟨rfl, ?_⟩⟩
    have : l' = l := by
      apply List.ext_getElem?
      intro j
      rcases Nat.lt_or_ge j l.length with h | h
      · exact g3 j (by omega)
      · rw [List.getElem?_eq_none (by omega), List.getElem?_eq_none h]
    show [[D.row _ LockX.ds l']] = [[D.row 6 LockX.ds l]]
    rw [this]
theorem toLockS_ok : FnOk Try.prog 85 (cCopyS 6 LockX.ds) := fnOk_of fun x => fn_at tab_ok (SOk.cons toLock_ok SOk.nil) mixed (fn := Try.f85) (code := body Try.f85) ⟨Try.func85, rfl, by kernel_rfl, by kernel_rfl, by kernel_rfl, by kernel_rfl⟩ (ev_toLockS x)
theorem ev_eqLockS : ∀ x, evFn tab [(116, (cEq LockX.ds))] (cEqS 6 LockX.ds) Try.f55 (body Try.f55) x := by
  rintro ⟨l, m⟩
  conv => whnf
  intro h1
  conv => whnf
  intro h2
  conv => whnf
  refine br2 (fun h3 => ?_) (fun h3 => ?_)
  · conv => whnf
    refine ⟨⟨rfl, ?_⟩⟩
    show _ = [[D.lf (.bool (eqX l m))]]
    have : l ≠ m := by rintro rfl; simp at h3
    rw [eqX_no.2 this]
  have hl : l.length = m.length := by
    replace h3 : ((l.length : Int) != (m.length : Int)) = false := h3
    simp at h3; omega
  conv => whnf
  refine ⟨fun k s h => ∃ i : Nat, i ≤ l.length ∧ (∀ j, j < i → l[j]? = m[j]?) ∧ k = l.length - i ∧ s = [(0, .sl 0 none), (1, .sl 16 none), (5, .lf (.int .i64 i))] ∧ h = [(0, some (.row .lent 6 LockX.ds l)), (16, some (.row .lent 6 LockX.ds m))],
    l.length, [(0, 0), (16, 16)], [(0, .sl 0 none), (1, .sl 16 none), (5, .lf (.int .i64 0))], [(0, some (.row .lent 6 LockX.ds l)), (16, some (.row .lent 6 LockX.ds m))], ⟨rfl, ⟨rfl, rfl, rfl, trivial⟩, ⟨rfl, rfl, trivial⟩⟩, ⟨0, by omega, fun j h => by omega, by omega, rfl, rfl⟩, ?_⟩
  rintro k _ _ ⟨i, g1, g2, rfl, rfl, rfl⟩
  conv => whnf
  intro h4
  conv => whnf
  refine br2 (fun h5 => ?_) (fun h5 => ?_)
  · have hi : i < l.length := by have := of_decide_eq_true h5; omega
    obtain ⟨y, hy⟩ : ∃ y, l[i]? = some y := ⟨_, List.getElem?_eq_getElem hi⟩
    have hy2 : nth l ((i : Nat) : Int).toNat = some y := by rw [nth_eq, Int.toNat_natCast]; exact hy
    obtain ⟨z, hz⟩ : ∃ z, m[i]? = some z := ⟨_, List.getElem?_eq_getElem (by omega)⟩
    have hz2 : nth m ((i : Nat) : Int).toNat = some z := by rw [nth_eq, Int.toNat_natCast]; exact hz
    conv => whnf
    refine ⟨Int.natCast_nonneg _, (show (i : Int) < (l.length : Int) by omega), ?_⟩
    conv => whnf
    refine ex2 y hy2 ?_
    conv => whnf
    refine ⟨Int.natCast_nonneg _, (show (i : Int) < (m.length : Int) by omega), ?_⟩
    conv => whnf
    refine ex2 z hz2 ?_
    conv => whnf
    refine ⟨(y, z), rfl, ?_⟩
    rintro _ _ ⟨rfl, rfl⟩
    conv => whnf
    refine br2 (fun h6 => ?_) (fun h6 => ?_)
    · replace h6 : (!eqX y z) = true := h6
      rw [Bool.not_eq_true', eqX_no] at h6
      conv => whnf
      refine ⟨⟨rfl, ?_⟩⟩
      show _ = [[D.lf (.bool (eqX l m))]]
      have : l ≠ m := by rintro rfl; rw [hy] at hz; cases hz; exact h6 rfl
      rw [eqX_no.2 this]
    · replace h6 : (!eqX y z) = false := h6
      rw [Bool.not_eq_false', eqX_iff] at h6
      conv => whnf
      refine ⟨l.length - (i + 1), [(0, 0), (16, 16)], [(0, .sl 0 none), (1, .sl 16 none), (5, .lf (.int .i64 ((i + 1 : Nat) : Int)))], [(0, some (.row .lent 6 LockX.ds l)), (16, some (.row .lent 6 LockX.ds m))], by omega, ⟨rfl, ⟨rfl, rfl, ?_, trivial⟩, ⟨rfl, rfl, trivial⟩⟩, i + 1, by omega, fun j hj => ?_, rfl, rfl, rfl⟩
      · show V.lf (.int .i64 (IntKind.i64.wrap ((i : Int) + 1))) = _
        replace h4 : l.length ≤ 9223372036854775807 := h4
        rw [w64 (by omega) (by omega)]; rfl
      · rcases Nat.lt_or_ge j i with h7 | h7
        · exact g2 j h7
        · obtain rfl : j = i := by omega
          rw [hy, hz, h6]
  · have hi : i = l.length := by have := of_decide_eq_false h5; omega
    conv => whnf
    refine ⟨⟨rfl, ?_⟩⟩
    show _ = [[D.lf (.bool (eqX l m))]]
    have : l = m := by
      apply List.ext_getElem?
      intro j
      rcases Nat.lt_or_ge j l.length with h | h
      · exact g2 j (by omega)
      · rw [List.getElem?_eq_none h, List.getElem?_eq_none (by omega)]
    rw [eqX_iff.2 this]
theorem eqLockS_ok : FnOk Try.prog 55 (cEqS 6 LockX.ds) := fnOk_of fun x => fn_at tab_ok (SOk.cons eqLock_ok SOk.nil) mixed (fn := Try.f55) (code := body Try.f55) ⟨Try.func55, rfl, by kernel_rfl, by kernel_rfl, by kernel_rfl, by kernel_rfl⟩ (ev_eqLockS x)
theorem ev_toPairS : ∀ x, evFn tab [(145, (cCopy RngX.ds))] (cCopyS 2 RngX.ds) Try.f108 (body Try.f108) x := by
  rintro ⟨l, hl⟩
  conv => whnf
  intro h1
  conv => whnf
  refine ⟨Int.natCast_nonneg _, rfl, ?_, ?_⟩
  · show (l.length : Int) ≤ (4294967296 : Nat); omega
  conv => whnf
  refine ⟨RngX, RngX.ds, rng0, fun _ => rfl, rfl, ?_⟩
  conv => whnf
  refine ⟨fun m s h => ∃ (i : Nat) (l' : List RngX), i ≤ l.length ∧ l'.length = l.length ∧ (∀ j, j < i → l'[j]? = l[j]?) ∧ m = l.length - i ∧ s = [(0, .sl 0 none), (3, .sl 112 none), (4, .lf (.int .i64 i))] ∧ h = [(112, some (.row .own 2 RngX.ds l')), (0, some (.row .lent 2 RngX.ds l))],
    l.length, [(112, 112), (0, 0)], [(0, .sl 0 none), (3, .sl 112 none), (4, .lf (.int .i64 0))], [(112, some (.row .own 2 RngX.ds (List.replicate (l.length : Int).toNat rng0))), (0, some (.row .lent 2 RngX.ds l))], ⟨rfl, ⟨rfl, rfl, rfl, trivial⟩, ⟨rfl, rfl, trivial⟩⟩,
    ⟨0, _, by omega, by rw [List.length_replicate, Int.toNat_natCast], fun j h => by omega, by omega, rfl, rfl⟩, ?_⟩
  rintro m _ _ ⟨i, l', g1, g2, g3, rfl, rfl, rfl⟩
  conv => whnf
  intro _
  conv => whnf
  refine br2 (fun h5 => ?_) (fun h5 => ?_)
  · have hi : i < l.length := by have := of_decide_eq_true h5; omega
    obtain ⟨y, hy⟩ : ∃ y, l[i]? = some y := ⟨_, List.getElem?_eq_getElem hi⟩
    have hy2 : nth l ((i : Nat) : Int).toNat = some y := by rw [nth_eq, Int.toNat_natCast]; exact hy
    obtain ⟨z, hz⟩ : ∃ z, l'[i]? = some z := ⟨_, List.getElem?_eq_getElem (by omega)⟩
    have hz2 : nth l' ((i : Nat) : Int).toNat = some z := by rw [nth_eq, Int.toNat_natCast]; exact hz
    conv => whnf
    refine ⟨Int.natCast_nonneg _, (show (i : Int) < (l.length : Int) by omega), ?_⟩
    conv => whnf
    refine ex2 y hy2 ?_
    conv => whnf
    refine ⟨y, rfl, ?_⟩
    rintro _ _ ⟨rfl, rfl⟩
    conv => whnf
    refine ⟨Int.natCast_nonneg _, (show (i : Int) < (l'.length : Int) by omega), ?_⟩
    conv => whnf
    refine ex2 z hz2 ?_
    conv => whnf
    refine ⟨y, rfl, ?_⟩
    conv => whnf
    refine ⟨l.length - (i + 1), [(112, 112), (0, 0)], [(0, .sl 0 none), (3, .sl 112 none), (4, .lf (.int .i64 ((i + 1 : Nat) : Int)))], [(112, some (.row .own 2 RngX.ds (l'.set (i : Int).toNat y))), (0, some (.row .lent 2 RngX.ds l))], by omega, ⟨rfl, ⟨rfl, rfl, ?_, trivial⟩, ⟨rfl, rfl, trivial⟩⟩, i + 1, _, by omega, ?_, fun j hj => ?_, rfl, rfl, rfl⟩
    · show V.lf (.int .i64 (IntKind.i64.wrap ((i : Int) + 1))) = _
      rw [w64 (by omega) (by omega)]; rfl
    · rw [List.length_set]; exact g2
    · rw [Int.toNat_natCast, set_at (by omega)]
      split
      · rename_i e; subst e; exact hy.symm
      · exact g3 j (by omega)
  · have hi : i = l.length := by have := of_decide_eq_false h5; omega
    conv => whnf
    refine ⟨⟨rfl, ?_⟩⟩
    have : l' = l := by
      apply List.ext_getElem?
      intro j
      rcases Nat.lt_or_ge j l.length with h | h
      · exact g3 j (by omega)
      · rw [List.getElem?_eq_none (by omega), List.getElem?_eq_none h]
    show [[D.row _ RngX.ds l']] = [[D.row 2 RngX.ds l]]
    rw [this]
theorem toPairS_ok : FnOk Try.prog 108 (cCopyS 2 RngX.ds) := fnOk_of fun x => fn_at tab_ok (SOk.cons toPair_ok SOk.nil) mixed (fn := Try.f108) (code := body Try.f108) ⟨Try.func108, rfl, by kernel_rfl, by kernel_rfl, by kernel_rfl, by kernel_rfl⟩ (ev_toPairS x)
theorem ev_eqPairS : ∀ x, evFn tab [(150, (cEq RngX.ds))] (cEqS 2 RngX.ds) Try.f113 (body Try.f113) x := by
  rintro ⟨l, m⟩
  conv => whnf
  intro h1
  conv => whnf
  intro h2
  conv => whnf
  refine br2 (fun h3 => ?_) (fun h3 => ?_)
  · conv => whnf
    refine ⟨⟨rfl, ?_⟩⟩
    show _ = [[D.lf (.bool (eqX l m))]]
    have : l ≠ m := by rintro rfl; simp at h3
    rw [eqX_no.2 this]
  have hl : l.length = m.length := by
    replace h3 : ((l.length : Int) != (m.length : Int)) = false := h3
    simp at h3; omega
  conv => whnf
  refine ⟨fun k s h => ∃ i : Nat, i ≤ l.length ∧ (∀ j, j < i → l[j]? = m[j]?) ∧ k = l.length - i ∧ s = [(0, .sl 0 none), (1, .sl 16 none), (5, .lf (.int .i64 i))] ∧ h = [(0, some (.row .lent 2 RngX.ds l)), (16, some (.row .lent 2 RngX.ds m))],
    l.length, [(0, 0), (16, 16)], [(0, .sl 0 none), (1, .sl 16 none), (5, .lf (.int .i64 0))], [(0, some (.row .lent 2 RngX.ds l)), (16, some (.row .lent 2 RngX.ds m))], ⟨rfl, ⟨rfl, rfl, rfl, trivial⟩, ⟨rfl, rfl, trivial⟩⟩, ⟨0, by omega, fun j h => by omega, by omega, rfl, rfl⟩, ?_⟩
  rintro k _ _ ⟨i, g1, g2, rfl, rfl, rfl⟩
  conv => whnf
  intro h4
  conv => whnf
  refine br2 (fun h5 => ?_) (fun h5 => ?_)
  · have hi : i < l.length := by have := of_decide_eq_true h5; omega
    obtain ⟨y, hy⟩ : ∃ y, l[i]? = some y := ⟨_, List.getElem?_eq_getElem hi⟩
    have hy2 : nth l ((i : Nat) : Int).toNat = some y := by rw [nth_eq, Int.toNat_natCast]; exact hy
    obtain ⟨z, hz⟩ : ∃ z, m[i]? = some z := ⟨_, List.getElem?_eq_getElem (by omega)⟩
    have hz2 : nth m ((i : Nat) : Int).toNat = some z := by rw [nth_eq, Int.toNat_natCast]; exact hz
    conv => whnf
    refine ⟨Int.natCast_nonneg _, (show (i : Int) < (l.length : Int) by omega), ?_⟩
    conv => whnf
    refine ex2 y hy2 ?_
    conv => whnf
    refine ⟨Int.natCast_nonneg _, (show (i : Int) < (m.length : Int) by omega), ?_⟩
    conv => whnf
    refine ex2 z hz2 ?_
    conv => whnf
    refine ⟨(y, z), rfl, ?_⟩
    rintro _ _ ⟨rfl, rfl⟩
    conv => whnf
    refine br2 (fun h6 => ?_) (fun h6 => ?_)
    · replace h6 : (!eqX y z) = true := h6
      rw [Bool.not_eq_true', eqX_no] at h6
      conv => whnf
      refine ⟨⟨rfl, ?_⟩⟩
      show _ = [[D.lf (.bool (eqX l m))]]
      have : l ≠ m := by rintro rfl; rw [hy] at hz; cases hz; exact h6 rfl
      rw [eqX_no.2 this]
    · replace h6 : (!eqX y z) = false := h6
      rw [Bool.not_eq_false', eqX_iff] at h6
      conv => whnf
      refine ⟨l.length - (i + 1), [(0, 0), (16, 16)], [(0, .sl 0 none), (1, .sl 16 none), (5, .lf (.int .i64 ((i + 1 : Nat) : Int)))], [(0, some (.row .lent 2 RngX.ds l)), (16, some (.row .lent 2 RngX.ds m))], by omega, ⟨rfl, ⟨rfl, rfl, ?_, trivial⟩, ⟨rfl, rfl, trivial⟩⟩, i + 1, by omega, fun j hj => ?_, rfl, rfl, rfl⟩
      · show V.lf (.int .i64 (IntKind.i64.wrap ((i : Int) + 1))) = _
        replace h4 : l.length ≤ 9223372036854775807 := h4
        rw [w64 (by omega) (by omega)]; rfl
      · rcases Nat.lt_or_ge j i with h7 | h7
        · exact g2 j h7
        · obtain rfl : j = i := by omega
          rw [hy, hz, h6]
  · have hi : i = l.length := by have := of_decide_eq_false h5; omega
    conv => whnf
    refine ⟨⟨rfl, ?_⟩⟩
    show _ = [[D.lf (.bool (eqX l m))]]
    have : l = m := by
      apply List.ext_getElem?
      intro j
      rcases Nat.lt_or_ge j l.length with h | h
      · exact g2 j (by omega)
      · rw [List.getElem?_eq_none h, List.getElem?_eq_none (by omega)]
    rw [eqX_iff.2 this]
theorem eqPairS_ok : FnOk Try.prog 113 (cEqS 2 RngX.ds) := fnOk_of fun x => fn_at tab_ok (SOk.cons eqPair_ok SOk.nil) mixed (fn := Try.f113) (code := body Try.f113) ⟨Try.func113, rfl, by kernel_rfl, by kernel_rfl, by kernel_rfl, by kernel_rfl⟩ (ev_eqPairS x)

/-! Held and waiting locks -/
structure LocksX where
  held : List LockX
  wait : List LockX
def LocksX.ds (x : LocksX) : List D := [.row 6 LockX.ds x.held, .row 6 LockX.ds x.wait]
def locksB0 (x : LocksX) : Prop := (x.held.length ≤ 9223372036854775807 ∧ ∀ y ∈ x.held, lockB0 y) ∧ (x.wait.length ≤ 9223372036854775807 ∧ ∀ y ∈ x.wait, lockB0 y)
def locksB (x : LocksX) : Prop := x.held.length + x.wait.length ≤ 1048576 ∧ (∀ y ∈ x.held, lockB y) ∧ ∀ y ∈ x.wait, lockB y
theorem ev_szLocks : ∀ x, evFn tab [(81, (cSzS 6 LockX.ds lockB0 lockB))] (cSz LocksX.ds locksB0 locksB) Try.f27 (body Try.f27) x := by
  rintro ⟨⟨l, m⟩, left, h1, h2, hb1, hb2⟩
  conv => whnf
  refine ⟨⟨l, left, h1, h2, hb1⟩, rfl, ?_⟩
  rintro _ _ ⟨rfl, k, rfl, k1, k2, k3⟩
  replace k2 : k ≤ left := k2
  conv => whnf
  refine br2 (fun h3 => ?_) (fun h3 => ?_)
  · conv => whnf
    exact ⟨⟨rfl, -1, rfl, by omega, (show (-1 : Int) ≤ left by omega), fun h => by omega⟩⟩
  · have h3' := of_decide_eq_false h3
    obtain ⟨k4, k5⟩ := k3 (by omega)
    replace k4 : (l.length : Int) + k ≤ left := k4
    conv => whnf
    refine ⟨⟨m, k, by omega, by omega, hb2⟩, rfl, ?_⟩
    rintro _ _ ⟨rfl, k', rfl, j1, j2, j3⟩
    replace j2 : k' ≤ k := j2
    conv => whnf
    refine br2 (fun h4 => ?_) (fun h4 => ?_)
    · conv => whnf
      exact ⟨⟨rfl, -1, rfl, by omega, (show (-1 : Int) ≤ left by omega), fun h => by omega⟩⟩
    · have h4' := of_decide_eq_false h4
      obtain ⟨j4, j5⟩ := j3 (by omega)
      replace j4 : (m.length : Int) + k' ≤ k := j4
      conv => whnf
      exact ⟨⟨rfl, k', rfl, by omega, (show k' ≤ left by omega), fun _ => (⟨by omega, k5, j5⟩ : l.length + m.length ≤ 1048576 ∧ (∀ y ∈ l, lockB y) ∧ ∀ y ∈ m, lockB y)⟩⟩
theorem szLocks_ok : FnOk Try.prog 27 (cSz LocksX.ds locksB0 locksB) := fnOk_of fun x => fn_at tab_ok (SOk.cons szLockS_ok SOk.nil) mixed (fn := Try.f27) (code := body Try.f27) ⟨Try.func27, rfl, by kernel_rfl, by kernel_rfl, by kernel_rfl, by kernel_rfl⟩ (ev_szLocks x)
structure LocksY where
  x : LocksX
  h1 : x.held.length ≤ 1048576
  h2 : x.wait.length ≤ 1048576
def cToLocks : Con := pureC LocksY [(.rd, true)] [true] (fun x => [x.x.ds]) (fun x => [x.x.ds])
theorem ev_toLocks : ∀ x, evFn tab [(85, (cCopyS 6 LockX.ds))] cToLocks Try.f29 (body Try.f29) x := by
  rintro ⟨⟨l, m⟩, h1, h2⟩
  conv => whnf
  refine ⟨⟨l, h1⟩, rfl, ?_⟩
  rintro _ _ ⟨rfl, rfl⟩
  conv => whnf
  refine ⟨⟨m, h2⟩, rfl, ?_⟩
  rintro _ _ ⟨rfl, rfl⟩
  conv => whnf
  exact ⟨⟨rfl, rfl⟩⟩
theorem toLocks_ok : FnOk Try.prog 29 cToLocks := fnOk_of fun x => fn_at tab_ok (SOk.cons toLockS_ok SOk.nil) mixed (fn := Try.f29) (code := body Try.f29) ⟨Try.func29, rfl, by kernel_rfl, by kernel_rfl, by kernel_rfl, by kernel_rfl⟩ (ev_toLocks x)
theorem ev_eqLocks : ∀ x, evFn tab [(55, (cEqS 6 LockX.ds))] (cEq LocksX.ds) Try.f31 (body Try.f31) x := by
  rintro ⟨⟨a, b⟩, ⟨c, d⟩⟩
  repeat' ((conv => whnf); first | refine br2 (fun h => ?_) (fun h => ?_) | (refine ⟨(a, c), rfl, ?_⟩; rintro _ _ ⟨rfl, rfl⟩) | (refine ⟨(b, d), rfl, ?_⟩; rintro _ _ ⟨rfl, rfl⟩))
  all_goals (conv => whnf)
  all_goals refine ⟨⟨rfl, ?_⟩⟩
  all_goals show _ = [[D.lf (.bool (eqX (⟨a, b⟩ : LocksX) ⟨c, d⟩))]]
  all_goals congr 4
  all_goals rw [eq_comm]
  all_goals simp_all [eqX_iff, eqX_no]
theorem eqLocks_ok : FnOk Try.prog 31 (cEq LocksX.ds) := fnOk_of fun x => fn_at tab_ok (SOk.cons eqLockS_ok SOk.nil) mixed (fn := Try.f31) (code := body Try.f31) ⟨Try.func31, rfl, by kernel_rfl, by kernel_rfl, by kernel_rfl, by kernel_rfl⟩ (ev_eqLocks x)
end Go.Vm
namespace Go.Vm
open Go.Proofs
set_option maxRecDepth 100000
set_option linter.unusedVariables false
set_option linter.unusedSimpArgs false

def numL (n : Nat) : List UInt8 := if n < 10 then [UInt8.ofNat (48 + n)] else numL (n / 10) ++ [UInt8.ofNat (48 + n % 10)]
theorem numL_lt {n : Nat} (h : n < 10) : numL n = [UInt8.ofNat (48 + n)] := by rw [numL, if_pos h]
theorem numL_ge {n : Nat} (h : ¬ n < 10) : numL n = numL (n / 10) ++ [UInt8.ofNat (48 + n % 10)] := by rw [numL, if_neg h]
theorem numL_len {n k : Nat} (h : n < 10 ^ (k + 1)) : (numL n).length ≤ k + 1 := by
  induction k generalizing n with
  | zero => rw [numL_lt (by simpa using h)]; simp
  | succ k ih =>
    by_cases h0 : n < 10
    · rw [numL_lt h0]; simp
    · rw [numL_ge h0]
      have := ih (n := n / 10) (by rw [Nat.pow_succ] at h; exact Nat.div_lt_of_lt_mul (by omega))
      simp; omega
theorem numL_pos (n : Nat) : 1 ≤ (numL n).length := by
  by_cases h : n < 10
  · rw [numL_lt h]; simp
  · rw [numL_ge h]; simp
def numT (n : Int) : ByteArray := if numB n then ofB (numL n.toNat) else ⟨#[]⟩
theorem numT_no {n : Int} (h : numB n = false) : numT n = ⟨#[]⟩ := by rw [numT, if_neg (by rw [h]; simp)]
theorem numT_yes {k : Nat} (h : k ≤ 1099511627775) : numT (k : Int) = ofB (numL k) := by rw [numT, if_pos (by simp [numB]; omega), Int.toNat_natCast]
theorem numT_size (n : Int) : (numT n).size ≤ 13 := by
  unfold numT
  split
  · rename_i h
    rw [of_size]
    have : n.toNat < 10 ^ 13 := by simp [numB] at h; omega
    exact numL_len (k := 12) this
  · decide
def cNumText : Con := pureC IX [(.rd, false)] [false] (fun x => [[.lf (.int .i64 x.n)]]) (fun x => [[.lf (.string (numT x.n))]])
theorem dig_u8 {n : Int} {k : Nat} (h : n = k) (hk : k < 208) : IntKind.u8.wrap (IntKind.i64.wrap (48 + n)) = ((UInt8.ofNat (48 + k)).toNat : Int) := by
  subst h
  exact u8_of (k := 48 + k) (by rw [w64 (by omega) (by omega)]; omega) (by omega)
theorem ev_sNumText : ∀ n x, (fun x => x.n.toNat) x = n → evFnX tab [(158, cNumText.below (fun x => x.n.toNat) n), (106, cNum)] cNumText Try.f158 (body Try.f158) x := by
  rintro q ⟨n, h1, h2⟩ rfl
  conv => whnf
  refine ⟨⟨n, h1, h2⟩, rfl, ?_⟩
  rintro _ _ ⟨rfl, rfl⟩
  conv => whnf
  refine br2 (fun h3 => ?_) (fun h3 => ?_)
  · have h3' : numB n = false := by simpa using h3
    conv => whnf
    refine ⟨⟨rfl, ?_⟩⟩
    show _ = [[D.lf (.string (numT n))]]
    rw [numT_no h3']
  have h3' : numB n = true := by simpa using h3
  obtain ⟨h4, h5⟩ : 0 ≤ n ∧ n ≤ 1099511627775 := by simpa [numB] using h3'
  obtain ⟨k, rfl⟩ : ∃ k : Nat, n = k := ⟨n.toNat, by omega⟩
  conv => whnf
  refine br2 (fun h6 => ?_) (fun h6 => ?_)
  · have h6' : k < 10 := by have h6' : (k : Int) < 10 := of_decide_eq_true h6; omega
    conv => whnf
    refine ⟨[UInt8.ofNat (48 + k)], by
      show [[D.lf (.int .u8 (IntKind.u8.wrap (IntKind.i64.wrap (48 + (k : Int)))))]] = _
      rw [dig_u8 rfl (by omega)]; rfl, ?_⟩
    conv => whnf
    refine ⟨⟨rfl, ?_⟩⟩
    show _ = [[D.lf (.string (numT (k : Int)))]]
    rw [numT_yes (by omega), numL_lt h6']; rfl
  have h6' : ¬ k < 10 := by have h6' : ¬ (k : Int) < 10 := of_decide_eq_false h6; omega
  have hd : IntKind.i64.wrap ((k : Int).tdiv 10) = ((k / 10 : Nat) : Int) := by rw [tdiv10, w64 (by omega) (by omega)]
  have hE : [[D.lf (.int .u8 (IntKind.u8.wrap (IntKind.i64.wrap (48 + (k : Int).tmod 10))))]] = [UInt8.ofNat (48 + k % 10)].map encB := by
    rw [dig_u8 (tmod10 k) (by omega)]; rfl
  have hI : [[D.lf (.int .i64 ((k / 10 : Nat) : Int))]] = [[D.lf (.int .i64 (IntKind.i64.wrap ((k : Int).tdiv 10)))]] := by rw [hd]
  have hs := numT_size ((k / 10 : Nat) : Int)
  have hF : [[D.lf (.string (numT ((k / 10 : Nat) : Int) ++ ⟨[UInt8.ofNat (48 + k % 10)].toArray⟩))]] = [[D.lf (.string (numT (k : Int)))]] := by
    rw [numT_yes (k := k) (by omega), numT_yes (k := k / 10) (by omega), numL_ge h6']
    congr 4
  repeat' ((conv => whnf); first
    | refine rc_i rfl ?_
    | refine rc_i ⟨_, hE, rfl⟩ ?_
    | refine ⟨_, hE, ?_⟩
    | (refine ⟨⟨⟨((k / 10 : Nat) : Int), by omega, by omega⟩, (show ((k / 10 : Nat) : Int).toNat < (k : Int).toNat by omega)⟩, hI, ?_⟩; rintro _ _ ⟨rfl, rfl⟩)
    | refine ⟨(show (numT ((k / 10 : Nat) : Int)).size + 1 ≤ 4294967296 by omega), ?_⟩
    | exact ⟨⟨rfl, hF⟩⟩
    | refine ⟨?_, ?_⟩)
theorem sNumText_ok : FnOk Try.prog 158 cNumText := fn_rec (fun x => x.n.toNat) fun n hs x hx => fnX_at tab_ok (SOk.cons hs (SOk.cons l01Num_ok SOk.nil)) mixed (fn := Try.f158) (code := body Try.f158) ⟨Try.func158, rfl, by kernel_rfl, by kernel_rfl, by kernel_rfl, by kernel_rfl⟩ (ev_sNumText n x hx)
end Go.Vm
namespace Go.Vm
open Go.Proofs
set_option maxRecDepth 100000
set_option linter.unusedVariables false
set_option linter.unusedSimpArgs false

structure CurX where
  b : List UInt8
  i : Int
  h : Int
  hb : b.length ≤ 1048576
  h1 : 0 ≤ i
  h2 : i ≤ b.length
  h3 : -9223372036854775808 ≤ h
  h4 : h ≤ 9223372036854775807
def CurX.d (c : CurX) : D := .box [.sh (.row 1 encB c.b), .lf (.int .i64 c.i), .lf (.int .i64 c.h)]
theorem wrap_lo (n : Int) : -9223372036854775808 ≤ IntKind.i64.wrap n := by simp [IntKind.wrap, IntKind.bits, IntKind.signed]; omega
theorem wrap_hi (n : Int) : IntKind.i64.wrap n ≤ 9223372036854775807 := by simp [IntKind.wrap, IntKind.bits, IntKind.signed]; omega
theorem and255 (a : Int) : 0 ≤ IntKind.i64.wrap ((BitVec.ofInt 64 a &&& BitVec.ofInt 64 255).toNat : Int) ∧ IntKind.i64.wrap ((BitVec.ofInt 64 a &&& BitVec.ofInt 64 255).toNat : Int) ≤ 255 := by
  have h : (BitVec.ofInt 64 a &&& BitVec.ofInt 64 255).toNat ≤ 255 := by
    rw [BitVec.toNat_and]
    exact Nat.le_trans Nat.and_le_right (by decide)
  rw [w64 (by omega) (by omega)]; omega
/-- What a draw of a number tells: it is within bounds. -/
def cByte : Con := { X := CurX, params := [(.mut, false)], res := [false], resOwn := true, ins := fun c => [[c.d]], post := fun _ outs r => ∃ (c : CurX) (v : Int), outs = [[c.d]] ∧ r = [[.lf (.int .i64 v)]] ∧ 0 ≤ v ∧ v ≤ 255 }
structure CodeX where
  b : List UInt8
  hb : b.length ≤ 1048576
def cNew : Con := { X := CodeX, params := [(.keep, false)], res := [false], resOwn := true, ins := fun c => [[.row 1 encB c.b]], post := fun _ outs r => outs = [] ∧ ∃ c : CurX, r = [[c.d]] }
theorem ev_l01New : ∀ x, evFnX tab [] cNew Try.f61 (body Try.f61) x := by
  rintro ⟨l, hb⟩
  conv => whnf
  intro _
  conv => whnf
  have hw : IntKind.i64.wrap (789392 + (l.length : Int)) = 789392 + (l.length : Int) := w64 (by omega) (by omega)
  refine ⟨fun m s h => ∃ (i : Nat) (q : Int), i ≤ l.length ∧ m = l.length - i ∧ -9223372036854775808 ≤ q ∧ q ≤ 9223372036854775807 ∧ s = [(0, .sl 0 none), (3, .lf (.int .i64 q)), (4, .lf (.int .i64 i))] ∧ h = [(0, some (.row .ro 1 encB l))],
    l.length, [(0, 0)], [(0, .sl 0 none), (3, .lf (.int .i64 _)), (4, .lf (.int .i64 0))], [(0, some (.row .ro 1 encB l))], ⟨rfl, ⟨rfl, rfl, rfl, trivial⟩, rfl, trivial⟩, ⟨0, _, by omega, by omega, wrap_lo _, wrap_hi _, rfl, rfl⟩, ?_⟩
  rintro m _ _ ⟨i, q, g1, rfl, g2, g3, rfl, rfl⟩
  conv => whnf
  intro _
  conv => whnf
  have out : ∃ c : CurX, [[D.box [.sh (.row 1 encB l), .lf (.int .i64 0), .lf (.int .i64 q)]]] = [[c.d]] := ⟨⟨l, 0, q, hb, by omega, by omega, g2, g3⟩, rfl⟩
  refine br2 (fun h5 => ?_) (fun h5 => ?_)
  · have hi : i < l.length := by have := of_decide_eq_true h5; omega
    obtain ⟨y, hy⟩ := getL hi
    conv => whnf
    refine br2 (fun h6 => ?_) (fun h6 => ?_)
    · conv => whnf
      refine ⟨Int.natCast_nonneg _, (show (i : Int) < (l.length : Int) by omega), ?_⟩
      conv => whnf
      refine ex2 y (nthI hy) ?_
      conv => whnf
      refine ⟨l.length - (i + 1), [(0, 0)], [(0, .sl 0 none), (3, .lf (.int .i64 _)), (4, .lf (.int .i64 ((i + 1 : Nat) : Int)))], [(0, some (.row .ro 1 encB l))], by omega, ⟨rfl, ⟨rfl, rfl, ?_, trivial⟩, rfl, trivial⟩, i + 1, _, by omega, rfl, wrap_lo _, wrap_hi _, rfl, rfl⟩
      show V.lf (.int .i64 (IntKind.i64.wrap ((i : Int) + 1))) = _
      rw [w64 (by omega) (by omega)]; rfl
    · conv => whnf
      exact ⟨⟨rfl, out⟩⟩
  · conv => whnf
    exact ⟨⟨rfl, out⟩⟩
theorem l01New_ok : FnOk Try.prog 61 cNew := fnOk_of fun x => fnX_at tab_ok (SOk.nil) mixed (fn := Try.f61) (code := body Try.f61) ⟨Try.func61, rfl, by kernel_rfl, by kernel_rfl, by kernel_rfl, by kernel_rfl⟩ (ev_l01New x)
theorem ev_l01Byte : ∀ x, evFnX tab [] cByte Try.f156 (body Try.f156) x := by
  rintro ⟨l, i, q, hb, h1, h2, h3, h4⟩
  replace hb : l.length ≤ 1048576 := hb
  replace h2 : i ≤ (l.length : Int) := h2
  conv => whnf
  intro _
  conv => whnf
  refine br2 (fun h5 => ?_) (fun h5 => ?_)
  · have hi : i < (l.length : Int) := of_decide_eq_true h5
    obtain ⟨y, hy⟩ := getL (l := l) (j := i.toNat) (by omega)
    have hy2 : nth l i.toNat = some y := by rw [nth_eq]; exact hy
    conv => whnf
    refine ⟨h1, hi, ?_⟩
    conv => whnf
    refine ex2 y hy2 ?_
    conv => whnf
    repeat (refine rc_i rfl ?_; conv => whnf)
    have e1 : IntKind.i64.wrap (i + 1) = i + 1 := w64 (by omega) (by omega)
    refine ⟨⟨⟨l, IntKind.i64.wrap (i + 1), IntKind.i64.wrap (IntKind.i64.wrap (q * 6364136223846793005) + 1442695040888963407), hb, by omega, by omega, wrap_lo _, wrap_hi _⟩, _, rfl, rfl, (and255 _).1, (and255 _).2⟩⟩
  · conv => whnf
    exact ⟨⟨⟨l, i, _, hb, h1, h2, wrap_lo _, wrap_hi _⟩, _, rfl, rfl, (and255 _).1, (and255 _).2⟩⟩
theorem l01Byte_ok : FnOk Try.prog 156 cByte := fnOk_of fun x => fnX_at tab_ok (SOk.nil) mixed (fn := Try.f156) (code := body Try.f156) ⟨Try.func156, rfl, by kernel_rfl, by kernel_rfl, by kernel_rfl, by kernel_rfl⟩ (ev_l01Byte x)
structure BelowX where
  c : CurX
  n : Int
  h : n ≤ 9223372036854775807
def cBelow : Con := { X := BelowX, params := [(.mut, false), (.rd, false)], res := [false], resOwn := true, ins := fun x => [[x.c.d], [.lf (.int .i64 x.n)]], post := fun x outs r => ∃ (c : CurX) (v : Int), outs = [[c.d]] ∧ r = [[.lf (.int .i64 v)]] ∧ 0 ≤ v ∧ (0 < x.n → v < x.n) ∧ (x.n ≤ 0 → v = 0) }
theorem ev_l01Below : ∀ x, evFnX tab [(156, cByte)] cBelow Try.f120 (body Try.f120) x := by
  rintro ⟨c, n, h⟩
  conv => whnf
  refine br2 (fun h5 => ?_) (fun h5 => ?_)
  · have h5' : n ≤ 0 := of_decide_eq_true h5
    conv => whnf
    exact ⟨⟨c, 0, rfl, rfl, by omega, fun h => absurd h (show ¬ 0 < n by omega), fun _ => rfl⟩⟩
  have h5' : 0 < n := by have h6 : ¬ n ≤ 0 := of_decide_eq_false h5; omega
  have hrem : ∀ a : Int, 0 ≤ a → 0 ≤ a.tmod n ∧ a.tmod n < n := fun a ha => ⟨Int.tmod_nonneg _ ha, Int.tmod_lt_of_pos _ h5'⟩
  conv => whnf
  refine br2 (fun h6 => ?_) (fun h6 => ?_)
  · conv => whnf
    refine ⟨c, rfl, ?_⟩
    rintro _ _ ⟨c1, v1, rfl, rfl, a1, b1⟩
    conv => whnf
    refine br2 (fun h7 => ?_) (fun h7 => ?_)
    · exfalso; have : n = 0 := of_decide_eq_true h7; omega
    conv => whnf
    exact ⟨⟨c1, v1.tmod n, rfl, rfl, (hrem v1 a1).1, fun _ => (hrem v1 a1).2, fun h => absurd h (show ¬ n ≤ 0 by omega)⟩⟩
  conv => whnf
  refine ⟨c, rfl, ?_⟩
  rintro _ _ ⟨c1, v1, rfl, rfl, a1, b1⟩
  conv => whnf
  refine ⟨c1, rfl, ?_⟩
  rintro _ _ ⟨c2, v2, rfl, rfl, a2, b2⟩
  conv => whnf
  refine ⟨c2, rfl, ?_⟩
  rintro _ _ ⟨c3, v3, rfl, rfl, a3, b3⟩
  conv => whnf
  refine ⟨c3, rfl, ?_⟩
  rintro _ _ ⟨c4, v4, rfl, rfl, a4, b4⟩
  conv => whnf
  refine br2 (fun h7 => ?_) (fun h7 => ?_)
  · exfalso; have : n = 0 := of_decide_eq_true h7; omega
  conv => whnf
  have e1 : 0 ≤ IntKind.i64.wrap (IntKind.i64.wrap (IntKind.i64.wrap (IntKind.i64.wrap (v1 * 16777216) + IntKind.i64.wrap (v2 * 65536)) + IntKind.i64.wrap (v3 * 256)) + v4) := by
    rw [w64 (n := v1 * 16777216) (by omega) (by omega), w64 (n := v2 * 65536) (by omega) (by omega), w64 (n := v3 * 256) (by omega) (by omega), w64 (n := v1 * 16777216 + v2 * 65536) (by omega) (by omega),
      w64 (n := v1 * 16777216 + v2 * 65536 + v3 * 256) (by omega) (by omega), w64 (by omega) (by omega)]
    omega
  exact ⟨⟨c4, _, rfl, rfl, (hrem _ e1).1, fun _ => (hrem _ e1).2, fun h => absurd h (show ¬ n ≤ 0 by omega)⟩⟩
theorem l01Below_ok : FnOk Try.prog 120 cBelow := fnOk_of fun x => fnX_at tab_ok (SOk.cons l01Byte_ok SOk.nil) mixed (fn := Try.f120) (code := body Try.f120) ⟨Try.func120, rfl, by kernel_rfl, by kernel_rfl, by kernel_rfl, by kernel_rfl⟩ (ev_l01Below x)
/-- A draw: what it tells has property P. -/
def cDraw {α : Type} (g : Bool) (enc : α → List D) (P : α → Prop) : Con := { X := CurX, params := [(.mut, false)], res := [g], resOwn := true, ins := fun c => [[c.d]], post := fun _ outs r => ∃ (c : CurX) (a : α), outs = [[c.d]] ∧ r = [enc a] ∧ P a }
def intE (n : Int) : List D := [.lf (.int .i64 n)]
def strE (s : ByteArray) : List D := [.lf (.string s)]
/-- One of a few texts, of a few numbers. -/
def strEls (k : Nat) : List (List V) → Bool
  | [] => true
  | [.lf (.string s)] :: r => match Nat.ble s.size k with | true => strEls k r | false => false
  | _ => false
def intEls : List (List V) → Bool
  | [] => true
  | [.lf (.int .i64 n)] :: r => match decide (-9223372036854775808 ≤ n), decide (n ≤ 9223372036854775807) with | true, true => intEls r | _, _ => false
  | _ => false
theorem exStr (k : Nat) {els : List (List V)} {i : Nat} {Q : List V → Prop} (ha : strEls k els = true) (hi : i < els.length) (h : ∀ s : ByteArray, s.size ≤ k → Q [.lf (.string s)]) : ex (nth els i) Q := by
  induction els generalizing i with
  | nil => simp at hi
  | cons e r ih =>
    unfold strEls at ha
    split at ha
    · rename_i h0; cases h0
    · rename_i s r' h0
      cases h0
      split at ha
      · rename_i hs
        cases i with
        | zero => exact h s (Nat.le_of_ble_eq_true hs)
        | succ i => exact ih ha (by simpa using hi)
      · cases ha
    · cases ha
theorem exInt {els : List (List V)} {i : Nat} {Q : List V → Prop} (ha : intEls els = true) (hi : i < els.length) (h : ∀ n : Int, -9223372036854775808 ≤ n → n ≤ 9223372036854775807 → Q [.lf (.int .i64 n)]) : ex (nth els i) Q := by
  induction els generalizing i with
  | nil => simp at hi
  | cons e r ih =>
    unfold intEls at ha
    split at ha
    · rename_i h0; cases h0
    · rename_i s r' h0
      cases h0
      split at ha
      · rename_i hs1 hs2
        cases i with
        | zero => exact h s (of_decide_eq_true hs1) (of_decide_eq_true hs2)
        | succ i => exact ih ha (by simpa using hi)
      · cases ha
    · cases ha
def intP (n : Int) : Prop := -9223372036854775808 ≤ n ∧ n ≤ 9223372036854775807
def strP (k : Nat) (s : ByteArray) : Prop := s.size ≤ k
theorem useBelow {c : CurX} {n : Int} {ds : List (List D)} {Q : List (List D) → List (List D) → Prop} (hd : [[c.d], [.lf (.int .i64 n)]] = ds) (hn : n ≤ 9223372036854775807)
    (h : ∀ (c' : CurX) (v : Int), 0 ≤ v → (0 < n → v < n) → (n ≤ 0 → v = 0) → Q [[c'.d]] [[.lf (.int .i64 v)]]) : ∃ x, cBelow.ins x = ds ∧ ∀ outs res, cBelow.post x outs res → Q outs res := by
  refine ⟨⟨c, n, hn⟩, hd, ?_⟩
  rintro _ _ ⟨c1, v, rfl, rfl, a1, a2, a3⟩
  exact h c1 v a1 a2 a3
theorem useDraw {α : Type} {g : Bool} {enc : α → List D} {P : α → Prop} {c : CurX} {ds : List (List D)} {Q : List (List D) → List (List D) → Prop} (hd : [[c.d]] = ds)
    (h : ∀ (c' : CurX) (a : α), P a → Q [[c'.d]] [enc a]) : ∃ x, (cDraw g enc P).ins x = ds ∧ ∀ outs res, (cDraw g enc P).post x outs res → Q outs res := by
  refine ⟨c, hd, ?_⟩
  rintro _ _ ⟨c1, a, rfl, rfl, a1⟩
  exact h c1 a a1
theorem ev_l08User : ∀ x, evFnX tab [(120, cBelow)] (cDraw false strE (strP 16)) Try.f162 (body Try.f162) x := by
  intro c
  conv => whnf
  refine useBelow (c := c) (n := 24) rfl (by decide) fun c v a1 a2 _ => ?_
  replace a2 : v < 24 := a2 (by decide)
  conv => whnf
  have h1 : 0 ≤ v.tmod 12 := Int.tmod_nonneg _ a1
  have h2 : v.tmod 12 < 12 := Int.tmod_lt_of_pos _ (by decide)
  refine ⟨h1, h2, ?_⟩
  conv => whnf
  refine exStr 16 ?_ ?_ fun s hs => ?_
  · rfl
  · show (v.tmod 12).toNat < 12; omega
  conv => whnf
  exact ⟨⟨c, s, rfl, rfl, hs⟩⟩
theorem l08User_ok : FnOk Try.prog 162 (cDraw false strE (strP 16)) := fnOk_of fun x => fnX_at tab_ok (SOk.cons l01Below_ok SOk.nil) mixed (fn := Try.f162) (code := body Try.f162) ⟨Try.func162, rfl, by kernel_rfl, by kernel_rfl, by kernel_rfl, by kernel_rfl⟩ (ev_l08User x)
theorem ev_l08Uval : ∀ x, evFnX tab [(120, cBelow)] (cDraw false strE (strP 20)) Try.f163 (body Try.f163) x := by
  intro c
  conv => whnf
  refine useBelow (c := c) (n := 6) rfl (by decide) fun c v a1 a2 _ => ?_
  replace a2 : v < 6 := a2 (by decide)
  conv => whnf
  refine ⟨a1, a2, ?_⟩
  conv => whnf
  refine exStr 20 ?_ ?_ fun s hs => ?_
  · rfl
  · show v.toNat < 6; omega
  conv => whnf
  exact ⟨⟨c, s, rfl, rfl, hs⟩⟩
theorem l08Uval_ok : FnOk Try.prog 163 (cDraw false strE (strP 20)) := fnOk_of fun x => fnX_at tab_ok (SOk.cons l01Below_ok SOk.nil) mixed (fn := Try.f163) (code := body Try.f163) ⟨Try.func163, rfl, by kernel_rfl, by kernel_rfl, by kernel_rfl, by kernel_rfl⟩ (ev_l08Uval x)
theorem ev_l01Raw : ∀ x, evFnX tab [(120, cBelow)] (cDraw false intE intP) Try.f142 (body Try.f142) x := by
  intro c
  conv => whnf
  refine useBelow (c := c) (n := 10) rfl (by decide) fun c k k1 k2 _ => ?_
  have done : ∀ (c : CurX) (v : Int), intP v → ∃ (c' : CurX) (a : Int), [[c.d]] = [[c'.d]] ∧ [[D.lf (.int .i64 v)]] = [intE a] ∧ intP a := fun c v h => ⟨c, v, rfl, rfl, h⟩
  conv => whnf
  refine br2 (fun _ => ?_) (fun _ => ?_)
  · conv => whnf
    refine useBelow (c := c) (n := 20) rfl (by decide) fun c v a1 a2 _ => ?_
    replace a2 : v < 20 := a2 (by decide)
    conv => whnf
    exact ⟨done _ _ ⟨by omega, by omega⟩⟩
  conv => whnf
  refine br2 (fun _ => ?_) (fun _ => ?_)
  · conv => whnf
    refine useBelow (c := c) (n := 3) rfl (by decide) fun c v a1 a2 _ => ?_
    conv => whnf
    exact ⟨done _ _ ⟨wrap_lo _, wrap_hi _⟩⟩
  conv => whnf
  refine br2 (fun _ => ?_) (fun _ => ?_)
  · conv => whnf
    refine useBelow (c := c) (n := 2) rfl (by decide) fun c v a1 a2 _ => ?_
    conv => whnf
    exact ⟨done _ _ ⟨wrap_lo _, wrap_hi _⟩⟩
  conv => whnf
  refine br2 (fun _ => ?_) (fun _ => ?_)
  · conv => whnf
    refine useBelow (c := c) (n := 2) rfl (by decide) fun c v a1 a2 _ => ?_
    conv => whnf
    exact ⟨done _ _ ⟨wrap_lo _, wrap_hi _⟩⟩
  conv => whnf
  refine br2 (fun _ => ?_) (fun _ => ?_)
  · conv => whnf
    refine useBelow (c := c) (n := 2) rfl (by decide) fun c v a1 a2 _ => ?_
    conv => whnf
    exact ⟨done _ _ ⟨wrap_lo _, wrap_hi _⟩⟩
  conv => whnf
  refine br2 (fun _ => ?_) (fun _ => ?_)
  · conv => whnf
    refine useBelow (c := c) (n := 8) rfl (by decide) fun c v a1 a2 _ => ?_
    replace a2 : v < 8 := a2 (by decide)
    conv => whnf
    refine ⟨a1, a2, ?_⟩
    conv => whnf
    refine exInt ?_ ?_ fun s hs1 hs2 => ?_
    · rfl
    · show v.toNat < 8; omega
    conv => whnf
    exact ⟨done _ _ ⟨hs1, hs2⟩⟩
  conv => whnf
  refine useBelow (c := c) (n := 65536) rfl (by decide) fun c v a1 a2 _ => ?_
  conv => whnf
  exact ⟨done _ _ ⟨wrap_lo _, wrap_hi _⟩⟩
theorem l01Raw_ok : FnOk Try.prog 142 (cDraw false intE intP) := fnOk_of fun x => fnX_at tab_ok (SOk.cons l01Below_ok SOk.nil) mixed (fn := Try.f142) (code := body Try.f142) ⟨Try.func142, rfl, by kernel_rfl, by kernel_rfl, by kernel_rfl, by kernel_rfl⟩ (ev_l01Raw x)
theorem ev_l02Key : ∀ x, evFnX tab [(120, cBelow), (158, cNumText)] (cDraw false strE (strP 16)) Try.f122 (body Try.f122) x := by
  intro c
  conv => whnf
  refine useBelow (c := c) (n := 20) rfl (by decide) fun c k k1 k2 _ => ?_
  replace k2 : k < 20 := k2 (by decide)
  conv => whnf
  refine br2 (fun h => ?_) (fun _ => ?_)
  · have h1 : k < 16 := of_decide_eq_true h
    conv => whnf
    refine ⟨k1, h1, ?_⟩
    conv => whnf
    refine exStr 16 ?_ ?_ fun s hs => ?_
    · rfl
    · show k.toNat < 16; omega
    conv => whnf
    exact ⟨⟨c, s, rfl, rfl, hs⟩⟩
  conv => whnf
  refine br2 (fun h => ?_) (fun _ => ?_)
  · conv => whnf
    exact ⟨⟨c, ⟨#[0]⟩, rfl, rfl, (show (1 : Nat) ≤ 16 by decide)⟩⟩
  conv => whnf
  refine br2 (fun h => ?_) (fun _ => ?_)
  · conv => whnf
    exact ⟨⟨c, ⟨#[122,122,122,122,122,122,122,122,122,122,122,122,122,122,122,122]⟩, rfl, rfl, (show (16 : Nat) ≤ 16 by decide)⟩⟩
  conv => whnf
  refine useBelow (c := c) (n := 30) rfl (by decide) fun c v a1 a2 _ => ?_
  replace a2 : v < 30 := a2 (by decide)
  conv => whnf
  refine ⟨⟨v, by omega, by omega⟩, rfl, ?_⟩
  rintro _ _ ⟨rfl, rfl⟩
  have hs := numT_size v
  conv => whnf
  refine ⟨(show 1 + (numT v).size ≤ 4294967296 by omega), ?_⟩
  conv => whnf
  refine ⟨⟨c, ⟨#[107]⟩ ++ numT v, rfl, rfl, ?_⟩⟩
  show (ByteArray.mk #[107] ++ numT v).size ≤ 16
  rw [ByteArray.size_append]
  show 1 + (numT v).size ≤ 16
  omega
theorem l02Key_ok : FnOk Try.prog 122 (cDraw false strE (strP 16)) := fnOk_of fun x => fnX_at tab_ok (SOk.cons l01Below_ok (SOk.cons sNumText_ok SOk.nil)) mixed (fn := Try.f122) (code := body Try.f122) ⟨Try.func122, rfl, by kernel_rfl, by kernel_rfl, by kernel_rfl, by kernel_rfl⟩ (ev_l02Key x)
def rngE (r : RngX) : List D := r.ds
def rngP (k : Nat) (r : RngX) : Prop := r.lo.size ≤ k ∧ r.hi.size ≤ k
theorem ev_sKeyOk : ∀ x, evFnX tab [] cKeyOk Try.f94 (body Try.f94) x := by
  intro k
  repeat' ((conv => whnf); refine br2 (fun h => ?_) (fun h => ?_))
  all_goals (conv => whnf)
  all_goals refine ⟨⟨rfl, ?_⟩⟩
  · show _ = [[D.lf (.bool (keyOkB k))]]
    have h1 := of_decide_eq_true h
    unfold keyOkB
    rw [show decide (1 ≤ k.size) = true from decide_eq_true (by omega), Bool.true_and]
    congr 4
    exact decide_eq_decide.2 (by omega)
  · show _ = [[D.lf (.bool (keyOkB k))]]
    have h1 := of_decide_eq_false h
    unfold keyOkB
    rw [show decide (1 ≤ k.size) = false from decide_eq_false (by omega), Bool.false_and]
theorem sKeyOk_ok : FnOk Try.prog 94 cKeyOk := fnOk_of fun x => fnX_at tab_ok (SOk.nil) mixed (fn := Try.f94) (code := body Try.f94) ⟨Try.func94, rfl, by kernel_rfl, by kernel_rfl, by kernel_rfl, by kernel_rfl⟩ (ev_sKeyOk x)
structure PtX where
  s : ByteArray
  h : s.size ≤ 1000
def cPoint : Con := relC PtX [(.rd, false)] [true] (fun x => [[.lf (.string x.s)]]) (fun x r => ∃ q : RngX, r = [q.ds] ∧ rngP (x.s.size + 1) q)
theorem ev_pointOf : ∀ x, evFnX tab [(94, cKeyOk)] cPoint Try.f157 (body Try.f157) x := by
  rintro ⟨s, h⟩
  conv => whnf
  refine ⟨s, rfl, ?_⟩
  rintro _ _ ⟨rfl, rfl⟩
  conv => whnf
  refine br2 (fun h => ?_) (fun _ => ?_)
  · conv => whnf
    exact ⟨⟨rfl, ⟨⟨#[]⟩, ⟨#[]⟩⟩, rfl, Nat.zero_le _, Nat.zero_le _⟩⟩
  conv => whnf
  refine ⟨(show s.size + 1 ≤ 4294967296 by omega), ?_⟩
  conv => whnf
  refine ⟨⟨rfl, ⟨s, s ++ ⟨#[0]⟩⟩, rfl, Nat.le_succ _, ?_⟩⟩
  show (s ++ ByteArray.mk #[0]).size ≤ s.size + 1
  rw [ByteArray.size_append]; exact Nat.le_refl _
theorem pointOf_ok : FnOk Try.prog 157 cPoint := fnOk_of fun x => fnX_at tab_ok (SOk.cons sKeyOk_ok SOk.nil) mixed (fn := Try.f157) (code := body Try.f157) ⟨Try.func157, rfl, by kernel_rfl, by kernel_rfl, by kernel_rfl, by kernel_rfl⟩ (ev_pointOf x)
theorem ev_l02Range : ∀ x, evFnX tab [(120, cBelow), (122, (cDraw false strE (strP 16))), (157, cPoint)] (cDraw true rngE (rngP 17)) Try.f121 (body Try.f121) x := by
  intro c
  conv => whnf
  refine useDraw (c := c) rfl fun c a ha => ?_
  replace ha : a.size ≤ 16 := ha
  conv => whnf
  refine useDraw (c := c) rfl fun c b hb => ?_
  replace hb : b.size ≤ 16 := hb
  conv => whnf
  refine useBelow (c := c) (n := 6) rfl (by decide) fun c v a1 a2 _ => ?_
  have h0 : (ByteArray.mk #[]).size ≤ 17 := by decide
  repeat' ((conv => whnf); first
    | refine br2 (fun _ => ?_) (fun _ => ?_)
    | exact ⟨⟨c, ⟨_, _⟩, rfl, rfl, h0, h0⟩⟩
    | exact ⟨⟨c, ⟨a, _⟩, rfl, rfl, Nat.le_succ_of_le ha, h0⟩⟩
    | exact ⟨⟨c, ⟨a, b⟩, rfl, rfl, Nat.le_succ_of_le ha, Nat.le_succ_of_le hb⟩⟩
    | exact ⟨⟨c, ⟨b, a⟩, rfl, rfl, Nat.le_succ_of_le hb, Nat.le_succ_of_le ha⟩⟩
    | (refine ⟨⟨a, by omega⟩, rfl, ?_⟩; rintro _ _ ⟨rfl, q, rfl, hq1, hq2⟩; (conv => whnf); exact ⟨⟨c, q, rfl, rfl, Nat.le_trans hq1 (Nat.succ_le_succ ha), Nat.le_trans hq2 (Nat.succ_le_succ ha)⟩⟩))
theorem l02Range_ok : FnOk Try.prog 121 (cDraw true rngE (rngP 17)) := fnOk_of fun x => fnX_at tab_ok (SOk.cons l01Below_ok (SOk.cons l02Key_ok (SOk.cons pointOf_ok SOk.nil))) mixed (fn := Try.f121) (code := body Try.f121) ⟨Try.func121, rfl, by kernel_rfl, by kernel_rfl, by kernel_rfl, by kernel_rfl⟩ (ev_l02Range x)
theorem ev_l08Reach : ∀ x, evFnX tab [(120, cBelow), (162, (cDraw false strE (strP 16))), (157, cPoint)] (cDraw true rngE (rngP 17)) Try.f164 (body Try.f164) x := by
  intro c
  conv => whnf
  refine useDraw (c := c) rfl fun c a ha => ?_
  replace ha : a.size ≤ 16 := ha
  conv => whnf
  refine useDraw (c := c) rfl fun c b hb => ?_
  replace hb : b.size ≤ 16 := hb
  have h0 : (ByteArray.mk #[]).size ≤ 17 := by decide
  conv => whnf
  refine br2 (fun _ => ?_) (fun _ => ?_)
  · conv => whnf
    refine ⟨⟨a, by omega⟩, rfl, ?_⟩
    rintro _ _ ⟨rfl, q, rfl, hq1, hq2⟩
    conv => whnf
    exact ⟨⟨c, q, rfl, rfl, Nat.le_trans hq1 (Nat.succ_le_succ ha), Nat.le_trans hq2 (Nat.succ_le_succ ha)⟩⟩
  conv => whnf
  refine useBelow (c := c) (n := 4) rfl (by decide) fun c v a1 a2 _ => ?_
  conv => whnf
  refine br2 (fun _ => ?_) (fun _ => ?_)
  · conv => whnf
    exact ⟨⟨c, ⟨a, _⟩, rfl, rfl, Nat.le_succ_of_le ha, h0⟩⟩
  conv => whnf
  exact ⟨⟨c, ⟨a, b⟩, rfl, rfl, Nat.le_succ_of_le ha, Nat.le_succ_of_le hb⟩⟩
theorem l08Reach_ok : FnOk Try.prog 164 (cDraw true rngE (rngP 17)) := fnOk_of fun x => fnX_at tab_ok (SOk.cons l01Below_ok (SOk.cons l08User_ok (SOk.cons pointOf_ok SOk.nil))) mixed (fn := Try.f164) (code := body Try.f164) ⟨Try.func164, rfl, by kernel_rfl, by kernel_rfl, by kernel_rfl, by kernel_rfl⟩ (ev_l08Reach x)
theorem ev_l02AnyRange : ∀ x, evFnX tab [(120, cBelow), (121, (cDraw true rngE (rngP 17)))] (cDraw true rngE (rngP 20)) Try.f62 (body Try.f62) x := by
  intro c
  conv => whnf
  refine useDraw (c := c) rfl fun c q hq => ?_
  obtain ⟨lo, hi⟩ := q
  obtain ⟨q1, q2⟩ : lo.size ≤ 17 ∧ hi.size ≤ 17 := hq
  have u1 : lo.size ≤ 20 := by omega
  have u2 : hi.size ≤ 20 := by omega
  conv => whnf
  refine useBelow (c := c) (n := 14) rfl (by decide) fun c k k1 k2 k3 => ?_
  clear k1 k2 k3
  have fin : ∀ (c : CurX) (lo hi : ByteArray), lo.size ≤ 20 → hi.size ≤ 20 → ∃ (c' : CurX) (a : RngX), [[c.d]] = [[c'.d]] ∧ [[D.lf (.string lo), D.lf (.string hi)]] = [rngE a] ∧ rngP 20 a := fun c lo hi h1 h2 => ⟨c, ⟨lo, hi⟩, rfl, rfl, h1, h2⟩
  have g1 : (k == 0) = true → k = 0 := fun h => eq_of_beq h
  have g2 : (k == 1) = true → k = 1 := fun h => eq_of_beq h
  have g3 : (k == 2) = true → k = 2 := fun h => eq_of_beq h
  have g4 : (k == 3) = true → k = 3 := fun h => eq_of_beq h
  have one : ∀ (c : CurX) (v : Int), 0 ≤ v → v < 2 → 0 ≤ IntKind.i64.wrap (17 + v) ∧ IntKind.i64.wrap (17 + v) ≤ 18 := fun c v h1 h2 => by rw [w64 (by omega) (by omega)]; omega
  conv => whnf
  refine br2 (fun h0 => ?_) (fun h0 => ?_)
  · obtain rfl := g1 h0
    conv => whnf
    exact ⟨fin _ _ _ (by first | exact u1 | exact u2) (by first | exact u1 | exact u2)⟩
  conv => whnf
  refine br2 (fun h0 => ?_) (fun h0 => ?_)
  · obtain rfl := g2 h0
    conv => whnf
    refine useBelow (c := c) (n := 2) rfl (by decide) fun c v a1 a2 _ => ?_
    replace a2 : v < 2 := a2 (by decide)
    obtain ⟨o1, o2⟩ := one c v a1 a2
    conv => whnf
    refine ⟨o1, rfl, Int.le_trans o2 (by decide), ?_⟩
    conv => whnf
    refine ⟨UInt8, encB, 0, fun _ => rfl, rfl, ?_⟩
    conv => whnf
    refine ⟨List.replicate (IntKind.i64.wrap (17 + v)).toNat 0, rfl, ?_⟩
    conv => whnf
    refine ⟨fin _ _ _ ?_ u2⟩
    show (List.replicate (IntKind.i64.wrap (17 + v)).toNat (0 : UInt8)).toArray.size ≤ 20
    simp; omega
  conv => whnf
  refine br2 (fun h0 => ?_) (fun h0 => ?_)
  · obtain rfl := g3 h0
    conv => whnf
    refine useBelow (c := c) (n := 2) rfl (by decide) fun c v a1 a2 _ => ?_
    replace a2 : v < 2 := a2 (by decide)
    conv => whnf
    refine ⟨a1, a2, ?_⟩
    conv => whnf
    refine exStr 1 ?_ ?_ fun s hs => ?_
    · rfl
    · show v.toNat < 2; omega
    conv => whnf
    refine ⟨(show 17 + s.size ≤ 4294967296 by omega), ?_⟩
    conv => whnf
    refine ⟨fin _ _ _ u1 ?_⟩
    rw [ByteArray.size_append]
    show 17 + s.size ≤ 20
    omega
  conv => whnf
  refine br2 (fun h0 => ?_) (fun h0 => ?_)
  · conv => whnf
    exact ⟨fin _ _ _ (by first | exact u1 | exact u2) (by first | exact u1 | exact u2)⟩
  conv => whnf
  exact ⟨fin _ _ _ (by first | exact u1 | exact u2) (by first | exact u1 | exact u2)⟩
theorem l02AnyRange_ok : FnOk Try.prog 62 (cDraw true rngE (rngP 20)) := fnOk_of fun x => fnX_at tab_ok (SOk.cons l01Below_ok (SOk.cons l02Range_ok SOk.nil)) mixed (fn := Try.f62) (code := body Try.f62) ⟨Try.func62, rfl, by kernel_rfl, by kernel_rfl, by kernel_rfl, by kernel_rfl⟩ (ev_l02AnyRange x)
end Go.Vm
namespace Go.Vm
open Go.Proofs
set_option maxRecDepth 100000
set_option linter.unusedVariables false
set_option linter.unusedSimpArgs false

def recE (r : RecX) : List D := r.ds
def anyP {α : Type} (_ : α) : Prop := True
theorem ev_l08Rec : ∀ x, evFnX tab [(120, cBelow), (162, (cDraw false strE (strP 16))), (163, (cDraw false strE (strP 20))), (164, (cDraw true rngE (rngP 17)))] (cDraw true recE anyP) Try.f141 (body Try.f141) x := by
  intro c
  conv => whnf
  refine useBelow (c := c) (n := 4) rfl (by decide) fun c k k1 k2 k3 => ?_
  clear k1 k2 k3
  conv => whnf
  refine br2 (fun h0 => ?_) (fun h0 => ?_)
  · conv => whnf
    refine useDraw (c := c) rfl fun c a ha => ?_
    conv => whnf
    refine br2 (fun h0 => ?_) (fun h0 => ?_)
    · conv => whnf
      refine useDraw (c := c) rfl fun c b hb => ?_
      conv => whnf
      exact ⟨⟨c, ⟨_, a, b, _, _⟩, rfl, rfl, trivial⟩⟩
    · conv => whnf
      exact ⟨⟨c, ⟨_, a, _, _, _⟩, rfl, rfl, trivial⟩⟩
  · conv => whnf
    refine useDraw (c := c) rfl fun c a ha => ?_
    conv => whnf
    exact ⟨⟨c, ⟨_, _, _, a.lo, a.hi⟩, rfl, rfl, trivial⟩⟩
theorem l08Rec_ok : FnOk Try.prog 141 (cDraw true recE anyP) := fnOk_of fun x => fnX_at tab_ok (SOk.cons l01Below_ok (SOk.cons l08User_ok (SOk.cons l08Uval_ok (SOk.cons l08Reach_ok SOk.nil)))) mixed (fn := Try.f141) (code := body Try.f141) ⟨Try.func141, rfl, by kernel_rfl, by kernel_rfl, by kernel_rfl, by kernel_rfl⟩ (ev_l08Rec x)
theorem ev_l08Any : ∀ x, evFnX tab [(120, cBelow), (141, (cDraw true recE anyP)), (142, (cDraw false intE intP)), (62, (cDraw true rngE (rngP 20)))] (cDraw true recE anyP) Try.f97 (body Try.f97) x := by
  intro c
  conv => whnf
  refine useDraw (c := c) rfl fun c r _ => ?_
  obtain ⟨r1, r2, r3, r4, r5⟩ := r
  conv => whnf
  refine useBelow (c := c) (n := 14) rfl (by decide) fun c k k1 k2 k3 => ?_
  clear k1 k2 k3
  have fin : ∀ (c : CurX) (a : Int) (b d e f : ByteArray), ∃ (c' : CurX) (r : RecX), [[c.d]] = [[c'.d]] ∧ [[D.lf (.int .i64 a), D.lf (.string b), D.lf (.string d), D.lf (.string e), D.lf (.string f)]] = [recE r] ∧ anyP r := fun c a b d e f => ⟨c, ⟨a, b, d, e, f⟩, rfl, rfl, trivial⟩
  have g1 : (k == 0) = true → k = 0 := fun h => eq_of_beq h
  have g2 : (k == 1) = true → k = 1 := fun h => eq_of_beq h
  have g3 : (k == 2) = true → k = 2 := fun h => eq_of_beq h
  conv => whnf
  refine br2 (fun h0 => ?_) (fun h0 => ?_)
  · obtain rfl := g1 h0
    conv => whnf
    refine useDraw (c := c) rfl fun c a ha => ?_
    conv => whnf
    exact ⟨fin _ _ _ _ _ _⟩
  conv => whnf
  refine br2 (fun h0 => ?_) (fun h0 => ?_)
  · obtain rfl := g2 h0
    conv => whnf
    refine useBelow (c := c) (n := 3) rfl (by decide) fun c v a1 a2 _ => ?_
    replace a2 : v < 3 := a2 (by decide)
    conv => whnf
    refine ⟨a1, a2, ?_⟩
    conv => whnf
    refine exStr 30 ?_ ?_ fun s hs => ?_
    · rfl
    · show v.toNat < 3; omega
    conv => whnf
    exact ⟨fin _ _ _ _ _ _⟩
  conv => whnf
  refine br2 (fun h0 => ?_) (fun h0 => ?_)
  · obtain rfl := g3 h0
    conv => whnf
    refine useBelow (c := c) (n := 3) rfl (by decide) fun c v a1 a2 _ => ?_
    replace a2 : v < 3 := a2 (by decide)
    conv => whnf
    refine ⟨a1, a2, ?_⟩
    conv => whnf
    refine exStr 30 ?_ ?_ fun s hs => ?_
    · rfl
    · show v.toNat < 3; omega
    conv => whnf
    exact ⟨fin _ _ _ _ _ _⟩
  conv => whnf
  refine br2 (fun h0 => ?_) (fun h0 => ?_)
  · conv => whnf
    refine useDraw (c := c) rfl fun c a ha => ?_
    conv => whnf
    exact ⟨fin _ _ _ _ _ _⟩
  conv => whnf
  exact ⟨fin _ _ _ _ _ _⟩
theorem l08Any_ok : FnOk Try.prog 97 (cDraw true recE anyP) := fnOk_of fun x => fnX_at tab_ok (SOk.cons l01Below_ok (SOk.cons l08Rec_ok (SOk.cons l01Raw_ok (SOk.cons l02AnyRange_ok SOk.nil)))) mixed (fn := Try.f97) (code := body Try.f97) ⟨Try.func97, rfl, by kernel_rfl, by kernel_rfl, by kernel_rfl, by kernel_rfl⟩ (ev_l08Any x)
def cDrawRec : Con := { X := CodeX, params := [(.keep, false)], res := [true], resOwn := true, ins := fun c => [[.row 1 encB c.b]], post := fun _ outs r => outs = [] ∧ ∃ q : RecX, r = [q.ds] }
theorem ev_drawRecText : ∀ x, evFnX tab [(61, cNew), (97, (cDraw true recE anyP))] cDrawRec Try.f45 (body Try.f45) x := by
  rintro ⟨l, hb⟩
  conv => whnf
  refine ⟨⟨l, hb⟩, rfl, ?_⟩
  rintro _ _ ⟨rfl, c, rfl⟩
  conv => whnf
  refine useDraw (c := c) rfl fun c r _ => ?_
  conv => whnf
  exact ⟨⟨rfl, r, rfl⟩⟩
theorem drawRecText_ok : FnOk Try.prog 45 cDrawRec := fnOk_of fun x => fnX_at tab_ok (SOk.cons l01New_ok (SOk.cons l08Any_ok SOk.nil)) mixed (fn := Try.f45) (code := body Try.f45) ⟨Try.func45, rfl, by kernel_rfl, by kernel_rfl, by kernel_rfl, by kernel_rfl⟩ (ev_drawRecText x)
theorem recT_emp {r : RecX} : emp (recT r) = !recOkB r := by
  cases h : recOkB r with
  | false => unfold recT; rw [if_neg (by rw [h]; simp)]; exact emp_iff.2 rfl
  | true =>
    rw [recT_of h]
    rw [Bool.not_true, emp_no]
    intro e
    have := congrArg bs e
    rw [bs_of] at this
    have h2 := recB_ne r
    rw [this] at h2
    simp [bs] at h2
theorem recT_size (r : RecX) : (recT r).size ≤ 1000 := by
  unfold recT
  split
  · rename_i h
    rw [of_size]
    have vl : ∀ n : Nat, n ≤ 1000 → (varB n).length ≤ 10 := fun n hn => varB_len (by omega)
    rcases recOk_kind h with h1 | h1 | h1 | h1
    · have := recOk_1 h h1
      simp only [recB, h1, if_true, List.length_cons, List.length_append, encT, bs_len]
      have := vl r.key.size (by omega); have := vl r.val.size (by omega); omega
    · have := recOk_2 h h1
      simp only [recB, h1, encT]
      have := vl r.key.size (by omega)
      simp [bs_len]; omega
    · have := recOk_34 h (by omega) (by omega)
      simp only [recB, h1, encT]
      have := vl r.lo.size (by omega); have := vl r.hi.size (by omega)
      simp [bs_len]; omega
    · have := recOk_34 h (by omega) (by omega)
      simp only [recB, h1, encT]
      have := vl r.lo.size (by omega); have := vl r.hi.size (by omega)
      simp [bs_len]; omega
  · decide
structure LawX where
  b : List UInt8
def cLawB : Con := { X := LawX, params := [(.keep, false)], res := [false], resOwn := true, ins := fun c => [[.row 1 encB c.b]], post := fun _ outs r => outs = [] ∧ r = [[.lf (.bool true)]] }
theorem ev_lawRec : ∀ x, evFnX tab [(45, cDrawRec), (46, cRecText), (47, cRecOk), (25, cTextRec)] cLawB Try.f9 (body Try.f9) x := by
  rintro ⟨l⟩
  conv => whnf
  intro _
  conv => whnf
  refine br2 (fun h0 => ?_) (fun h0 => ?_)
  · conv => whnf
    exact ⟨⟨rfl, rfl⟩⟩
  have hb : l.length ≤ 1048576 := by have h1 : ¬ (l.length : Int) > 1048576 := of_decide_eq_false h0; omega
  conv => whnf
  refine ⟨⟨l, hb⟩, rfl, ?_⟩
  rintro _ _ ⟨rfl, r, rfl⟩
  conv => whnf
  refine ⟨r, rfl, ?_⟩
  rintro _ _ ⟨rfl, rfl⟩
  conv => whnf
  refine ⟨r, rfl, ?_⟩
  rintro _ _ ⟨rfl, rfl⟩
  have he := recT_emp (r := r)
  conv => whnf
  refine br2 (fun h1 => ?_) (fun h1 => ?_)
  · exfalso
    replace h1 : ((!emp (recT r)) != recOkB r) = true := h1
    rw [he] at h1; simp at h1
  have hs := recT_size r
  conv => whnf
  refine ⟨⟨recT r, by omega⟩, rfl, ?_⟩
  rintro _ _ ⟨rfl, q, ok, rfl, hR⟩
  cases hok : recOkB r with
  | true =>
    obtain ⟨e1, e2⟩ := hR.all r hok rfl
    subst e1; subst e2
    have hne : strEq (recT q) ⟨#[]⟩ = false := by rw [show strEq (recT q) ⟨#[]⟩ = emp (recT q) from rfl, he, hok]; rfl
    conv => whnf
    refine br2 (fun h2 => ?_) (fun h2 => ?_)
    · conv => whnf
      refine ⟨⟨rfl, ?_⟩⟩
      show [[D.lf (.bool (q.kind == q.kind && (strEq q.key q.key && (strEq q.val q.val && (strEq q.lo q.lo && (strEq q.hi q.hi && true))))))]] = _
      simp [strEq_refl]
    · exfalso
      replace h2 : (true == !strEq (recT q) ⟨#[]⟩) = false := h2
      rw [hne] at h2; simp at h2
  | false =>
    have hem : strEq (recT r) ⟨#[]⟩ = true := by rw [show strEq (recT r) ⟨#[]⟩ = emp (recT r) from rfl, he, hok]; rfl
    have hok2 : ok = false := by
      cases ok with
      | false => rfl
      | true =>
        obtain ⟨y1, y2⟩ := hR.yes rfl
        have := recT_emp (r := q)
        rw [y2, he, hok, y1] at this
        simp at this
    subst hok2
    conv => whnf
    refine br2 (fun h2 => ?_) (fun h2 => ?_)
    · conv => whnf
      exact ⟨⟨rfl, rfl⟩⟩
    · exfalso
      replace h2 : (false == !strEq (recT r) ⟨#[]⟩) = false := h2
      rw [hem] at h2; simp at h2
theorem lawRec_ok : FnOk Try.prog 9 cLawB := fnOk_of fun x => fnX_at tab_ok (SOk.cons drawRecText_ok (SOk.cons iRecText_ok (SOk.cons sRecOk_ok (SOk.cons iTextRec_ok SOk.nil)))) mixed (fn := Try.f9) (code := body Try.f9) ⟨Try.func9, rfl, by kernel_rfl, by kernel_rfl, by kernel_rfl, by kernel_rfl⟩ (ev_lawRec x)
end Go.Vm
