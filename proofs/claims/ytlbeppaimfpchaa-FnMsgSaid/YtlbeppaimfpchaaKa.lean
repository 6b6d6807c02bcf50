/- Contracts: words. -/
import Derived.Test.YtlbeppaimfpchaaVmT
namespace Go.Vm
open Go.Proofs

def body (f : Func) : Code := match f.body with | some c => c | none => .skip
/-- A function whose results are told by its parameters and that changes nothing. -/
def pureC (X : Type) (params : List (Mode × Bool)) (res : List Bool) (ins : X → List (List D)) (f : X → List (List D)) : Con :=
  { X := X, params := params, res := res, resOwn := true, ins := ins, post := fun x outs r => outs = [] ∧ r = f x }
/-- One of whose results something is known. -/
def relC (X : Type) (params : List (Mode × Bool)) (res : List Bool) (ins : X → List (List D)) (R : X → List (List D) → Prop) : Con :=
  { X := X, params := params, res := res, resOwn := true, ins := ins, post := fun x outs r => outs = [] ∧ R x r }

theorem SOk.nil {P : Program} : SOk P [] := fun p hp => by simp at hp
theorem SOk.cons {P : Program} {f : Nat} {c : Con} {S : Cons} (h : FnOk P f c) (hs : SOk P S) : SOk P ((f, c) :: S) := fun p hp => by
  rcases List.mem_cons.1 hp with rfl | hp
  · exact h
  · exact hs p hp

/-- A mark: at this region moves are told that the program does not see. -/
def cGh : Con := { X := Empty, params := [], res := [], resOwn := true, ins := fun _ => [], post := fun _ _ _ => True }
theorem gh_ok {P : Program} {n : Nat} : FnOk P n cGh := fun x => nomatch x
theorem nthI {β : Type} {l : List β} {j : Nat} {y : β} (h : l[j]? = some y) : nth l ((j : Nat) : Int).toNat = some y := by rw [nth_eq, Int.toNat_natCast]; exact h
theorem getL {β : Type} {l : List β} {j : Nat} (h : j < l.length) : ∃ y, l[j]? = some y := ⟨_, List.getElem?_eq_getElem h⟩

/-- Equality as a bool. -/
noncomputable def eqX {α : Type} (a b : α) : Bool := haveI := Classical.propDecidable (a = b); decide (a = b)
theorem eqX_iff {α : Type} {a b : α} : eqX a b = true ↔ a = b := by unfold eqX; simp
theorem eqX_no {α : Type} {a b : α} : eqX a b = false ↔ a ≠ b := by unfold eqX; simp
theorem eqX_refl {α : Type} (a : α) : eqX a a = true := eqX_iff.2 rfl
theorem b_iff {a b : Bool} : a = b ↔ (a = true ↔ b = true) := by cases a <;> cases b <;> simp

theorem w64 {n : Int} (h1 : -9223372036854775808 ≤ n) (h2 : n ≤ 9223372036854775807) : IntKind.i64.wrap n = n := by
  simp [IntKind.wrap, IntKind.bits, IntKind.signed]; omega
/-- The byte of a number. -/
def b8 (n : Int) : UInt8 := UInt8.ofNat (n % 256).toNat
theorem w8 (n : Int) : IntKind.u8.wrap n = ((b8 n).toNat : Int) := by
  simp [IntKind.wrap, IntKind.bits, IntKind.signed, b8]
  omega
theorem encB_len (a : UInt8) : (encB a).length = 1 := rfl
theorem flat_encB (a : UInt8) : flatL (encB a) = true := rfl
theorem map_b8 (n : Int) : [b8 n].map encB = [[.lf (.int .u8 (IntKind.u8.wrap n))]] := by rw [w8]; rfl

theorem u8_of {n : Int} {k : Nat} (h : n = k) (hk : k < 256) : IntKind.u8.wrap n = ((UInt8.ofNat k).toNat : Int) := by
  subst h
  rw [w8]
  congr 2
  unfold b8
  congr 1
  omega
theorem enc_u8 {n : Int} {k : Nat} (h : n = k) (hk : k < 256) : [UInt8.ofNat k].map encB = [[.lf (.int .u8 (IntKind.u8.wrap n))]] := by rw [u8_of h hk]; rfl
theorem tmodN (n : Nat) (k : Nat) : (n : Int).tmod k = ((n % k : Nat) : Int) := by rw [Int.tmod_eq_emod_of_nonneg (by omega)]; rfl
theorem tdivN (n : Nat) (k : Nat) : (n : Int).tdiv k = ((n / k : Nat) : Int) := by rw [Int.tdiv_eq_ediv_of_nonneg (by omega)]; rfl

theorem tmod128 (n : Nat) : (n : Int).tmod 128 = ((n % 128 : Nat) : Int) := tmodN n 128
theorem tdiv128 (n : Nat) : (n : Int).tdiv 128 = ((n / 128 : Nat) : Int) := tdivN n 128
theorem tmod10 (n : Nat) : (n : Int).tmod 10 = ((n % 10 : Nat) : Int) := tmodN n 10
theorem tdiv10 (n : Nat) : (n : Int).tdiv 10 = ((n / 10 : Nat) : Int) := tdivN n 10

/-- A number in base 128. -/
def varB (n : Nat) : List UInt8 := if n < 128 then [UInt8.ofNat n] else UInt8.ofNat (n % 128 + 128) :: varB (n / 128)
theorem varB_lt {n : Nat} (h : n < 128) : varB n = [UInt8.ofNat n] := by rw [varB, if_pos h]
theorem varB_ge {n : Nat} (h : ¬ n < 128) : varB n = UInt8.ofNat (n % 128 + 128) :: varB (n / 128) := by rw [varB, if_neg h]
end Go.Vm
namespace Go.Vm
open Go.Proofs
set_option maxRecDepth 100000
set_option linter.unusedVariables false
set_option linter.unusedSimpArgs false

theorem varB_le {k n : Nat} (h : n < 128 ^ k) (hk : 0 < k) : (varB n).length ≤ k := by
  have key : ∀ k n, n < 128 ^ k → 0 < k → (varB n).length ≤ k := by
    intro k
    induction k with
    | zero => intro n h h0; omega
    | succ k ih =>
      intro n h _
      by_cases hn : n < 128
      · rw [varB_lt hn]; simp
      · rw [varB_ge hn]
        rw [Nat.pow_succ] at h
        have : n / 128 < 128 ^ k := Nat.div_lt_of_lt_mul (by omega)
        have hk : 0 < k := by
          rcases Nat.eq_zero_or_pos k with rfl | h1
          · simp at h; omega
          · exact h1
        have := ih _ this hk
        simp; omega
  exact key k n h hk
theorem varB_len {n : Nat} (h : n ≤ 9223372036854775807) : (varB n).length ≤ 10 := varB_le (by omega) (by omega)
theorem varB_len6 {n : Nat} (h : n ≤ 1099511627775) : (varB n).length ≤ 6 := varB_le (by omega) (by omega)
theorem varB_pos (n : Nat) : 1 ≤ (varB n).length := by
  by_cases h : n < 128
  · rw [varB_lt h]; simp
  · rw [varB_ge h]; simp
/-- The bytes of a text; a text behind its length. -/
def bs (s : ByteArray) : List UInt8 := s.data.toList
def encT (s : ByteArray) : List UInt8 := varB s.size ++ bs s
theorem bs_len (s : ByteArray) : (bs s).length = s.size := by simp [bs]
def ofB (l : List UInt8) : ByteArray := ⟨l.toArray⟩
theorem bs_of (l : List UInt8) : bs (ofB l) = l := by simp [bs, ofB]
theorem of_bs (s : ByteArray) : ofB (bs s) = s := by simp [bs, ofB]
theorem of_size (l : List UInt8) : (ofB l).size = l.length := by rw [← bs_len, bs_of]

structure VaryX where
  l : List UInt8
  n : Nat
  hl : l.length ≤ 4294967000
  hn : n ≤ 9223372036854775807
def cVary : Con := pureC VaryX [(.take, false), (.rd, false)] [false] (fun x => [[.row 1 encB x.l], [.lf (.int .i64 x.n)]]) (fun x => [[.row 1 encB (x.l ++ varB x.n)]])

theorem ev_vary : ∀ x, evFn tab [] cVary Try.f97 (body Try.f97) x := by
  rintro ⟨l, n, hl, hn⟩
  conv => whnf
  refine ⟨fun m s h => ∃ (l' : List UInt8) (n' : Nat), l ++ varB n = l' ++ varB n' ∧ n' ≤ 9223372036854775807 ∧ m = n' ∧ s = [(0, .sl 0 none), (1, .lf (.int .i64 n'))] ∧ h = [(0, some (.row .own 1 encB l'))],
    n, [(0, 0)], [(0, .sl 0 none), (1, .lf (.int .i64 n))], [(0, some (.row .own 1 encB l))], ⟨rfl, ⟨rfl, rfl, trivial⟩, ⟨rfl, trivial⟩⟩, ⟨l, n, rfl, hn, rfl, rfl, rfl⟩, ?_⟩
  rintro m _ _ ⟨l', n', h1, h2, rfl, rfl, rfl⟩
  have hlen := congrArg List.length h1
  have hv := varB_len hn
  simp only [List.length_append] at hlen
  conv => whnf
  refine br2 (fun h3 => ?_) (fun h3 => ?_)
  · have h3' : ¬ m < 128 := by simp at h3; omega
    have hm : ((m : Int).tmod 128) = ((m % 128 : Nat) : Int) := tmodN m 128
    have hd : ((m : Int).tdiv 128) = ((m / 128 : Nat) : Int) := tdivN m 128
    rw [varB_ge h3'] at h1 hlen
    simp only [List.length_cons] at hlen
    conv => whnf
    refine ⟨[UInt8.ofNat (m % 128 + 128)], enc_u8 (by rw [hm, w64] <;> omega) (by omega), ?_, ?_⟩
    · show l'.length + 1 ≤ 4294967296; omega
    conv => whnf
    refine ⟨m / 128, [(208, 0)], [(0, .sl 0 none), (1, .lf (.int .i64 (m / 128 : Nat)))], [(0, some (.row .own 1 encB (l' ++ [UInt8.ofNat (m % 128 + 128)])))], by omega, ⟨rfl, ⟨rfl, ?_, trivial⟩, ⟨rfl, trivial⟩⟩, _, _, ?_, ?_, rfl, rfl, rfl⟩
    · show V.lf (.int .i64 (IntKind.i64.wrap ((m : Int).tdiv 128))) = _
      rw [hd, w64] <;> omega
    · rw [h1]; simp
    · omega
  · have h3' : m < 128 := by simp at h3; omega
    rw [varB_lt h3'] at h1 hlen
    simp at hlen
    conv => whnf
    refine ⟨[UInt8.ofNat m], enc_u8 rfl (by omega), ?_, ?_⟩
    · show l'.length + 1 ≤ 4294967296; omega
    conv => whnf
    refine ⟨⟨rfl, ?_⟩⟩
    show _ = [[D.row 1 encB (l ++ varB n)]]
    rw [h1]; rfl
theorem vary_ok : FnOk Try.prog 97 cVary := fnOk_of fun x => fn_at tab_ok (SOk.nil) mixed (fn := Try.f97) (code := body Try.f97) ⟨Try.func97, rfl, by kernel_rfl, by kernel_rfl, by kernel_rfl, by kernel_rfl⟩ (ev_vary x)

structure TextX where
  l : List UInt8
  s : ByteArray
  hl : l.length ≤ 4000000000
  hs : s.size ≤ 100000000
def cText : Con := pureC TextX [(.take, false), (.rd, false)] [false] (fun x => [[.row 1 encB x.l], [.lf (.string x.s)]]) (fun x => [[.row 1 encB (x.l ++ encT x.s)]])
theorem ev_iText : ∀ x, evFn tab [(97, cVary)] cText Try.f98 (body Try.f98) x := by
  rintro ⟨l, s, hl, hs⟩
  conv => whnf
  refine ⟨⟨l, s.size, by omega, by omega⟩, rfl, ?_⟩
  rintro _ _ ⟨rfl, rfl⟩
  conv => whnf
  refine ⟨bs s, rfl, ?_, ?_⟩
  · show (l ++ varB s.size).length + (bs s).length ≤ 4294967296
    have := varB_len (n := s.size) (by omega)
    rw [bs_len, List.length_append]; omega
  conv => whnf
  refine ⟨⟨rfl, ?_⟩⟩
  show [[D.row 1 encB (l ++ varB s.size ++ bs s)]] = _
  simp [encT, List.append_assoc]
theorem iText_ok : FnOk Try.prog 98 cText := fnOk_of fun x => fn_at tab_ok (SOk.cons vary_ok SOk.nil) mixed (fn := Try.f98) (code := body Try.f98) ⟨Try.func98, rfl, by kernel_rfl, by kernel_rfl, by kernel_rfl, by kernel_rfl⟩ (ev_iText x)

structure IX where
  n : Int
  h1 : -9223372036854775808 ≤ n
  h2 : n ≤ 9223372036854775807
def numB (n : Int) : Bool := decide (0 ≤ n) && decide (n ≤ 1099511627775)
def cNum : Con := pureC IX [(.rd, false)] [false] (fun x => [[.lf (.int .i64 x.n)]]) (fun x => [[.lf (.bool (numB x.n))]])
theorem ev_l01Num : ∀ x, evFn tab [] cNum Try.f114 (body Try.f114) x := by
  rintro ⟨n, h1, h2⟩
  repeat' ((conv => whnf); refine br2 (fun h => ?_) (fun h => ?_))
  all_goals (conv => whnf)
  all_goals refine ⟨⟨rfl, ?_⟩⟩
  all_goals simp_all [numB] <;> omega
theorem l01Num_ok : FnOk Try.prog 114 cNum := fnOk_of fun x => fn_at tab_ok (SOk.nil) mixed (fn := Try.f114) (code := body Try.f114) ⟨Try.func114, rfl, by kernel_rfl, by kernel_rfl, by kernel_rfl, by kernel_rfl⟩ (ev_l01Num x)

structure PutX where
  l : List UInt8
  n : Int
  hl : l.length ≤ 4294967000
  h1 : -9223372036854775808 ≤ n
  h2 : n ≤ 9223372036854775807
def putB (l : List UInt8) (n : Int) : Bool := numB n && decide (l.length + (varB n.toNat).length ≤ 4096)
def putL (l : List UInt8) (n : Int) : List UInt8 := if putB l n then l ++ varB n.toNat else []
def cPutVar : Con := pureC PutX [(.rd, false), (.rd, false)] [false, false] (fun x => [[.row 1 encB x.l], [.lf (.int .i64 x.n)]]) (fun x => [[.row 1 encB (putL x.l x.n)], [.lf (.bool (putB x.l x.n))]])
theorem ev_putVar : ∀ x, evFn tab [(114, cNum)] cPutVar Try.f92 (body Try.f92) x := by
  rintro ⟨l, n, hl, h1, h2⟩
  conv => whnf
  refine ⟨⟨n, h1, h2⟩, rfl, ?_⟩
  rintro _ _ ⟨rfl, rfl⟩
  conv => whnf
  refine br2 (fun h3 => ?_) (fun h3 => ?_)
  · have h3' : numB n = false := by simpa using h3
    conv => whnf
    refine ⟨1, UInt8, encB, encB_len, ?_⟩
    conv => whnf
    refine ⟨⟨rfl, ?_⟩⟩
    show _ = [[D.row 1 encB (putL l n)], [D.lf (.bool (putB l n))]]
    simp [putL, putB, h3']
  · have h3' : numB n = true := by simpa using h3
    obtain ⟨h4, h5⟩ : 0 ≤ n ∧ n ≤ 1099511627775 := by simpa [numB] using h3'
    obtain ⟨k, rfl⟩ : ∃ k : Nat, n = k := ⟨n.toNat, by omega⟩
    conv => whnf
    refine ⟨true, ?_⟩
    conv => whnf
    refine ⟨UInt8, encB, [], encB_len, rfl, ?_⟩
    conv => whnf
    refine ⟨flat_encB, l, rfl, ?_, ?_⟩
    · show 0 + l.length ≤ 4294967296; omega
    conv => whnf
    refine ⟨fun m s h => ∃ (l' : List UInt8) (n' : Nat), l ++ varB k = l' ++ varB n' ∧ n' ≤ 1099511627775 ∧ m = n' ∧ s = [(6, .sl 0 none), (1, .lf (.int .i64 n')), (4, .lf (.slice none 0 0)), (5, .lf (.bool false))] ∧ h = [(0, some (.row .own 1 encB l'))],
      k, [(192, 0)], [(6, .sl 0 none), (1, .lf (.int .i64 k)), (4, .lf (.slice none 0 0)), (5, .lf (.bool false))], [(0, some (.row .own 1 encB l))], ⟨rfl, ⟨rfl, rfl, rfl, rfl, trivial⟩, ⟨rfl, trivial⟩⟩, ⟨l, k, rfl, by omega, rfl, rfl, rfl⟩, ?_⟩
    rintro m _ _ ⟨l', n', e1, e2, rfl, rfl, rfl⟩
    have hlen := congrArg List.length e1
    have hv := varB_len6 (n := k) (by omega)
    simp only [List.length_append] at hlen
    conv => whnf
    refine br2 (fun g3 => ?_) (fun g3 => ?_)
    · have g3' : ¬ m < 128 := by simp at g3; omega
      have hm : ((m : Int).tmod 128) = ((m % 128 : Nat) : Int) := tmodN m 128
      have hd : ((m : Int).tdiv 128) = ((m / 128 : Nat) : Int) := tdivN m 128
      rw [varB_ge g3'] at e1 hlen
      simp only [List.length_cons] at hlen
      conv => whnf
      refine ⟨[UInt8.ofNat (m % 128 + 128)], enc_u8 (by rw [hm, w64] <;> omega) (by omega), ?_, ?_⟩
      · show l'.length + 1 ≤ 4294967296; omega
      conv => whnf
      refine ⟨m / 128, [(336, 0)], [(6, .sl 0 none), (1, .lf (.int .i64 (m / 128 : Nat))), (4, .lf (.slice none 0 0)), (5, .lf (.bool false))], [(0, some (.row .own 1 encB (l' ++ [UInt8.ofNat (m % 128 + 128)])))], by omega, ⟨rfl, ⟨rfl, ?_, rfl, rfl, trivial⟩, ⟨rfl, trivial⟩⟩, _, _, ?_, ?_, rfl, rfl, rfl⟩
      · show V.lf (.int .i64 (IntKind.i64.wrap ((m : Int).tdiv 128))) = _
        rw [hd, w64] <;> omega
      · rw [e1]; simp
      · omega
    · have g3' : m < 128 := by simp at g3; omega
      rw [varB_lt g3'] at e1 hlen
      simp at hlen
      conv => whnf
      refine ⟨[UInt8.ofNat m], enc_u8 rfl (by omega), ?_, ?_⟩
      · show l'.length + 1 ≤ 4294967296; omega
      conv => whnf
      intro _
      conv => whnf
      have hL : (cutL none l' ++ [UInt8.ofNat m] : List UInt8) = l ++ varB k := e1.symm
      refine br2 (fun g4 => ?_) (fun g4 => ?_)
      · conv => whnf
        refine ⟨1, UInt8, encB, encB_len, ?_⟩
        conv => whnf
        refine ⟨⟨rfl, ?_⟩⟩
        rw [hL] at g4
        have : ¬ l.length + (varB k).length ≤ 4096 := by simp at g4; omega
        show _ = [[D.row 1 encB (putL l k)], [D.lf (.bool (putB l k))]]
        simp [putL, putB, this]
      · conv => whnf
        refine ⟨⟨rfl, ?_⟩⟩
        rw [hL] at g4
        have : l.length + (varB k).length ≤ 4096 := by simp at g4; omega
        show [[D.row 1 encB (cutL none (cutL none l' ++ [UInt8.ofNat m]))], _] = [[D.row 1 encB (putL l k)], [D.lf (.bool (putB l k))]]
        rw [hL]
        simp [putL, putB, this, h3', cutL]
theorem putVar_ok : FnOk Try.prog 92 cPutVar := fnOk_of fun x => fn_at tab_ok (SOk.cons l01Num_ok SOk.nil) mixed (fn := Try.f92) (code := body Try.f92) ⟨Try.func92, rfl, by kernel_rfl, by kernel_rfl, by kernel_rfl, by kernel_rfl⟩ (ev_putVar x)
end Go.Vm
namespace Go.Vm
open Go.Proofs
set_option maxRecDepth 100000
set_option linter.unusedVariables false
set_option linter.unusedSimpArgs false

structure PutTX where
  l : List UInt8
  s : ByteArray
  hl : l.length ≤ 4000000000
  hs : s.size ≤ 100000000
def putTB (l : List UInt8) (s : ByteArray) : Bool := decide (l.length + (encT s).length ≤ 4096)
def putTL (l : List UInt8) (s : ByteArray) : List UInt8 := if putTB l s then l ++ encT s else []
def cPutText : Con := pureC PutTX [(.rd, false), (.rd, false)] [false, false] (fun x => [[.row 1 encB x.l], [.lf (.string x.s)]]) (fun x => [[.row 1 encB (putTL x.l x.s)], [.lf (.bool (putTB x.l x.s))]])
theorem ev_sPutText : ∀ x, evFn tab [(92, cPutVar)] cPutText Try.f93 (body Try.f93) x := by
  rintro ⟨l, s, hl, hs⟩
  conv => whnf
  refine ⟨⟨l, s.size, by omega, by omega, by omega⟩, rfl, ?_⟩
  rintro _ _ ⟨rfl, rfl⟩
  have hT : (encT s).length = (varB s.size).length + s.size := by simp [encT, bs_len]
  have hn : numB (s.size : Int) = true := by simp [numB]; omega
  conv => whnf
  refine br2 (fun h3 => ?_) (fun h3 => ?_)
  · have h3' : putB l s.size = false := by simpa using h3
    conv => whnf
    refine ⟨1, UInt8, encB, encB_len, ?_⟩
    conv => whnf
    refine ⟨⟨rfl, ?_⟩⟩
    have : ¬ l.length + (varB s.size).length ≤ 4096 := by simpa [putB, hn] using h3'
    have h : putTB l s = false := by simp [putTB, hT]; omega
    show _ = [[D.row 1 encB (putTL l s)], [D.lf (.bool (putTB l s))]]
    simp [putTL, h]
  · have h3' : putB l s.size = true := by simpa using h3
    have h5 : l.length + (varB s.size).length ≤ 4096 := by simpa [putB, hn] using h3'
    have hL : putL l s.size = l ++ varB s.size := by simp [putL, h3']
    conv => whnf
    intro h6
    conv => whnf
    have hw : IntKind.i64.wrap (4096 - ((l ++ varB s.size).length : Int)) = 4096 - ((l ++ varB s.size).length : Int) := by simp only [List.length_append]; rw [w64] <;> omega
    refine br2 (fun h4 => ?_) (fun h4 => ?_)
    · conv => whnf
      refine ⟨1, UInt8, encB, encB_len, ?_⟩
      conv => whnf
      refine ⟨⟨rfl, ?_⟩⟩
      replace h4 : decide ((s.size : Int) > IntKind.i64.wrap (4096 - ((putL l s.size).length : Int))) = true := h4
      rw [hL, hw] at h4
      have h : putTB l s = false := by simp [putTB, hT]; simp at h4; omega
      show _ = [[D.row 1 encB (putTL l s)], [D.lf (.bool (putTB l s))]]
      simp [putTL, h]
    · conv => whnf
      replace h4 : decide ((s.size : Int) > IntKind.i64.wrap (4096 - ((putL l s.size).length : Int))) = false := h4
      rw [hL, hw] at h4
      have h : putTB l s = true := by simp [putTB, hT]; simp at h4; omega
      refine ⟨?_, ?_⟩
      · show s.size ≤ 4294967296; omega
      conv => whnf
      refine ⟨flat_encB, bs s, rfl, ?_, ?_⟩
      · show (putL l s.size).length + (bs s).length ≤ 4294967296
        rw [hL, bs_len, List.length_append]; omega
      conv => whnf
      refine ⟨⟨rfl, ?_⟩⟩
      show [[D.row 1 encB (putL l s.size ++ bs s)], _] = [[D.row 1 encB (putTL l s)], [D.lf (.bool (putTB l s))]]
      rw [hL]
      simp [putTL, h, encT, List.append_assoc]
theorem sPutText_ok : FnOk Try.prog 93 cPutText := fnOk_of fun x => fn_at tab_ok (SOk.cons putVar_ok SOk.nil) mixed (fn := Try.f93) (code := body Try.f93) ⟨Try.func93, rfl, by kernel_rfl, by kernel_rfl, by kernel_rfl, by kernel_rfl⟩ (ev_sPutText x)

/-! Numbers read -/
structure GetX where
  l : List UInt8
  a : Int
  hl : l.length ≤ 4294967296
  h1 : -9223372036854775808 ≤ a
  h2 : a ≤ 9223372036854775807
/-- What is read: a number and the place behind it; the number that stands there. -/
def GotN (l : List UInt8) (a n nx : Int) : Prop :=
  (nx = -1 ∧ n = 0 ∨ 0 ≤ n ∧ n ≤ 1099511627775 ∧ 0 ≤ a ∧ a < nx ∧ nx ≤ l.length) ∧
    ∀ (pre : List UInt8) (v : Nat) (post : List UInt8), l = pre ++ varB v ++ post → a = pre.length → v ≤ 1099511627775 → n = v ∧ nx = pre.length + (varB v).length
def cGetVar : Con := relC GetX [(.rd, false), (.rd, false)] [false, false] (fun x => [[.row 1 encB x.l], [.lf (.int .i64 x.a)]]) (fun x r => ∃ n nx : Int, r = [[.lf (.int .i64 n)], [.lf (.int .i64 nx)]] ∧ GotN x.l x.a n nx)

theorem gotN_none {l : List UInt8} {a : Int} (h : a < 0 ∨ (l.length : Int) ≤ a) : GotN l a 0 (-1) := by
  refine ⟨.inl ⟨rfl, rfl⟩, fun pre v post h1 h2 _ => ?_⟩
  have := congrArg List.length h1
  have := varB_pos v
  simp only [List.length_append] at *
  omega

/-- The digits so far: k of them, in sum n; what is left of the number that stands there. -/
structure Dig (l : List UInt8) (a : Nat) (k n : Nat) : Prop where
  lt : n < 128 ^ k
  rest : ∀ (pre : List UInt8) (v : Nat) (post : List UInt8), l = pre ++ varB v ++ post → a = pre.length → v ≤ 1099511627775 →
    ∃ v', l.drop (a + k) = varB v' ++ post ∧ v = n + 128 ^ k * v' ∧ (varB v).length = k + (varB v').length ∧ (1 ≤ k → 1 ≤ v')

theorem Dig.zero (l : List UInt8) (a : Nat) : Dig l a 0 0 := ⟨by simp, fun pre v post h1 h2 _ => ⟨v, by rw [h1, h2]; simp, by simp, by simp, by omega⟩⟩

theorem u8_lt (d : UInt8) : d.toNat < 256 := d.toNat_lt
theorem toNat_of {k : Nat} (h : k < 256) : (UInt8.ofNat k).toNat = k := by simp [UInt8.toNat_ofNat]; omega
theorem head_eq {x d : UInt8} {r : List UInt8} (h : (x :: r)[0]? = some d) : x = d := by simpa only [List.getElem?_cons_zero, Option.some.injEq] using h
theorem Dig.step {l : List UInt8} {a k n : Nat} (h : Dig l a k n) {d : UInt8} (hd : l[a + k]? = some d) (hge : 128 ≤ d.toNat) : Dig l a (k + 1) (n + d.toNat % 128 * 128 ^ k) := by
  refine ⟨?_, fun pre v post h1 h2 h3 => ?_⟩
  · have h4 := h.lt
    have h5 : d.toNat % 128 ≤ 127 := by omega
    have h6 : d.toNat % 128 * 128 ^ k ≤ 127 * 128 ^ k := Nat.mul_le_mul_right _ h5
    rw [Nat.pow_succ]; omega
  · obtain ⟨v', e1, e2, e3, e4⟩ := h.rest pre v post h1 h2 h3
    by_cases hv : v' < 128
    · exfalso
      rw [varB_lt hv] at e1
      have : (l.drop (a + k))[0]? = some d := by simpa using hd
      rw [e1] at this
      have := head_eq this
      subst this
      rw [toNat_of (by omega)] at hge
      omega
    · rw [varB_ge hv] at e1 e3
      have : (l.drop (a + k))[0]? = some d := by simpa using hd
      rw [e1] at this
      have := head_eq this
      subst this
      refine ⟨v' / 128, ?_, ?_, ?_, fun _ => by omega⟩
      · have := congrArg (List.drop 1) e1
        rw [List.drop_drop] at this
        simpa [Nat.add_assoc] using this
      · rw [toNat_of (by omega), e2, Nat.pow_succ]
        have h6 : (v' % 128 + 128) % 128 = v' % 128 := by omega
        rw [h6]
        have h7 : v' = v' % 128 + 128 * (v' / 128) := by omega
        calc n + 128 ^ k * v' = n + 128 ^ k * (v' % 128 + 128 * (v' / 128)) := by rw [← h7]
          _ = n + v' % 128 * 128 ^ k + 128 ^ k * 128 * (v' / 128) := by rw [Nat.mul_add, Nat.mul_comm (128 ^ k) (v' % 128), Nat.mul_assoc, Nat.add_assoc]
      · simp only [List.length_cons] at e3; omega
theorem Dig.last {l : List UInt8} {a k n : Nat} (h : Dig l a k n) {d : UInt8} (hd : l[a + k]? = some d) (hlt : d.toNat < 128) {pre : List UInt8} {v : Nat} {post : List UInt8} (h1 : l = pre ++ varB v ++ post) (h2 : a = pre.length) (h3 : v ≤ 1099511627775) :
    v = n + d.toNat * 128 ^ k ∧ (varB v).length = k + 1 ∧ (1 ≤ k → 1 ≤ d.toNat) := by
  obtain ⟨v', e1, e2, e3, e4⟩ := h.rest pre v post h1 h2 h3
  have h5 : (l.drop (a + k))[0]? = some d := by simpa using hd
  by_cases hv : v' < 128
  · rw [varB_lt hv] at e1 e3
    rw [e1] at h5
    have := head_eq h5
    subst this
    rw [toNat_of (by omega), Nat.mul_comm v']
    exact ⟨e2, e3, e4⟩
  · exfalso
    rw [varB_ge hv] at e1
    rw [e1] at h5
    have := head_eq h5
    subst this
    rw [toNat_of (by omega)] at hlt
    omega
theorem Dig.out {l : List UInt8} {a k n : Nat} (h : Dig l a k n) (hk : l.length ≤ a + k ∨ 6 ≤ k) (h0 : a + k ≤ l.length) : GotN l a 0 (-1) := by
  refine ⟨.inl ⟨rfl, rfl⟩, fun pre v post h1 h2 h3 => ?_⟩
  exfalso
  have h2' : a = pre.length := by omega
  obtain ⟨v', e1, e2, e3, e4⟩ := h.rest pre v post h1 h2' h3
  have h5 := varB_pos v'
  have h6 := varB_len6 h3
  have h7 := congrArg List.length e1
  simp only [List.length_append, List.length_drop] at h7
  omega

theorem pow_le6 {k : Nat} (h : k ≤ 6) : 128 ^ k ≤ 4398046511104 := Nat.le_trans (Nat.pow_le_pow_right (by omega) h) (by decide)
/-- The digits' number has so many digits just if the last one isn't nought. -/
theorem dig_len {n k d : Nat} (hn : n < 128 ^ k) (hd : d < 128) : (varB (n + d * 128 ^ k)).length = k + 1 ↔ (d ≠ 0 ∨ k = 0) := by
  have key : ∀ k n d, n < 128 ^ k → d < 128 → ((varB (n + d * 128 ^ k)).length = k + 1 ↔ (d ≠ 0 ∨ k = 0)) ∧ (varB (n + d * 128 ^ k)).length ≤ k + 1 := by
    intro k
    induction k with
    | zero =>
      intro n d hn hd
      have : n = 0 := by simpa using hn
      subst this
      rw [varB_lt (by omega)]; simp
    | succ k ih =>
      intro n d hn hd
      rw [Nat.pow_succ] at hn
      have h1 : n / 128 < 128 ^ k := Nat.div_lt_of_lt_mul (by omega)
      obtain ⟨i1, i2⟩ := ih (n / 128) d h1 hd
      have hdiv : (n + d * 128 ^ (k + 1)) / 128 = n / 128 + d * 128 ^ k := by
        rw [Nat.pow_succ, ← Nat.mul_assoc, Nat.add_mul_div_right _ _ (by omega : 0 < 128)]
      by_cases hlt : n + d * 128 ^ (k + 1) < 128
      · rw [varB_lt hlt]
        have : d = 0 := by
          rcases Nat.eq_zero_or_pos d with h | h
          · exact h
          · exfalso
            have : 128 ^ (k + 1) ≤ d * 128 ^ (k + 1) := Nat.le_mul_of_pos_left _ h
            have : 128 ≤ 128 ^ (k + 1) := by rw [Nat.pow_succ]; have : 128 ^ 0 ≤ 128 ^ k := Nat.pow_le_pow_right (by omega) (Nat.zero_le k); simp only [Nat.pow_zero] at this; omega
            omega
        subst this
        simp
      · rw [varB_ge hlt, hdiv]
        simp only [List.length_cons]
        constructor
        · rw [show (varB (n / 128 + d * 128 ^ k)).length + 1 = k + 1 + 1 ↔ (varB (n / 128 + d * 128 ^ k)).length = k + 1 by omega, i1]
          constructor
          · rintro (h | h)
            · exact .inl h
            · subst h
              have hn1 : n < 128 := by simpa using hn
              refine .inl fun h0 => hlt (by subst h0; simpa using hn1)
          · rintro (h | h)
            · exact .inl h
            · omega
        · omega
  exact (key k n d hn hd).1
end Go.Vm
namespace Go.Vm
open Go.Proofs
set_option maxRecDepth 100000
set_option linter.unusedVariables false
set_option linter.unusedSimpArgs false

theorem gotN_of {l : List UInt8} {a k n : Nat} (h : Dig l a k n) {d : UInt8} (hd : l[a + k]? = some d) (hlt : d.toNat < 128) (hm : n + d.toNat * 128 ^ k ≤ 1099511627775) : GotN l a ((n + d.toNat * 128 ^ k : Nat) : Int) ((a + k + 1 : Nat) : Int) := by
  have hl : a + k < l.length := (List.getElem?_eq_some_iff.1 hd).1
  refine ⟨.inr ⟨by omega, by omega, by omega, by omega, by omega⟩, fun pre v post h1 h2 h3 => ?_⟩
  obtain ⟨e1, e2, e3⟩ := h.last hd hlt h1 (by omega) h3
  omega
theorem gotN_bad {l : List UInt8} {a k n : Nat} (h : Dig l a k n) {d : UInt8} (hd : l[a + k]? = some d) (hlt : d.toNat < 128) (hm : ¬ n + d.toNat * 128 ^ k ≤ 1099511627775 ∨ (d.toNat = 0 ∧ 1 ≤ k)) : GotN l a 0 (-1) := by
  refine ⟨.inl ⟨rfl, rfl⟩, fun pre v post h1 h2 h3 => ?_⟩
  obtain ⟨e1, e2, e3⟩ := h.last hd hlt h1 (by omega) h3
  omega
theorem dig_bound {l : List UInt8} {a k n : Nat} (h : Dig l a k n) (hk : k ≤ 5) {d : Nat} (hd : d < 256) : 128 ^ k ≤ 34359738368 ∧ n < 34359738368 ∧ d % 128 * 128 ^ k ≤ 127 * 34359738368 := by
  have h1 : 128 ^ k ≤ 34359738368 := Nat.le_trans (Nat.pow_le_pow_right (by omega) hk) (by decide)
  have h2 := h.lt
  have h3 : d % 128 * 128 ^ k ≤ 127 * 34359738368 := Nat.mul_le_mul (by omega) h1
  exact ⟨h1, by omega, h3⟩

theorem ev_sGetVar : ∀ x, evFn tab [(92, cPutVar)] cGetVar Try.f101 (body Try.f101) x := by
  rintro ⟨l, a, hl, h1, h2⟩
  conv => whnf
  refine br2 (fun h3 => ?_) (fun h3 => ?_)
  · conv => whnf
    refine ⟨⟨rfl, 0, -1, rfl, gotN_none (.inl (by simpa using h3))⟩⟩
  conv => whnf
  intro h4
  conv => whnf
  refine br2 (fun h5 => ?_) (fun h5 => ?_)
  · conv => whnf
    refine ⟨⟨rfl, 0, -1, rfl, gotN_none (.inr (by simpa using h5))⟩⟩
  have h3' : 0 ≤ a := by simpa using h3
  have h5' : a < l.length := by simpa using h5
  obtain ⟨a, rfl⟩ : ∃ k : Nat, a = k := ⟨a.toNat, by omega⟩
  conv => whnf
  refine ⟨fun m s h => ∃ k n : Nat, Dig l a k n ∧ a + k ≤ l.length ∧ k ≤ 6 ∧ m = 6 - k ∧ s = [(0, .sl 0 none), (1, .lf (.int .i64 a)), (6, .lf (.int .i64 n)), (7, .lf (.int .i64 ((128 ^ k : Nat) : Int))), (8, .lf (.int .i64 ((a + k : Nat) : Int)))] ∧ h = [(0, some (.row .lent 1 encB l))],
    6, [(0, 0)], [(0, .sl 0 none), (1, .lf (.int .i64 a)), (6, .lf (.int .i64 0)), (7, .lf (.int .i64 1)), (8, .lf (.int .i64 a))], [(0, some (.row .lent 1 encB l))], ⟨rfl, ⟨rfl, rfl, rfl, rfl, rfl, trivial⟩, ⟨rfl, trivial⟩⟩, ⟨0, 0, Dig.zero l a, by omega, by omega, rfl, rfl, rfl⟩, ?_⟩
  rintro m _ _ ⟨k, n, hD, hk1, hk2, rfl, rfl, rfl⟩
  conv => whnf
  intro _
  conv => whnf
  refine br2 (fun g1 => ?_) (fun g1 => ?_)
  · conv => whnf
    refine br2 (fun g2 => ?_) (fun g2 => ?_)
    · have hk : a + k < l.length := by simp at g1; omega
      have hk5 : k ≤ 5 := by rw [w64] at g2 <;> first | omega | (simp at g2; omega)
      obtain ⟨d, hd⟩ : ∃ d, l[a + k]? = some d := ⟨_, List.getElem?_eq_getElem hk⟩
      have hd2 : nth l ((a + k : Nat) : Int).toNat = some d := by rw [nth_eq, Int.toNat_natCast]; exact hd
      have hd8 := u8_lt d
      obtain ⟨b1, b2, b3⟩ := dig_bound hD hk5 hd8
      have p1 : (0 : Int) ≤ ((128 ^ k : Nat) : Int) := Int.natCast_nonneg _
      have p2 : ((128 ^ k : Nat) : Int) ≤ 34359738368 := Int.ofNat_le.2 b1
      have hn1 : IntKind.i64.wrap ((n : Int) + IntKind.i64.wrap (((IntKind.i64.wrap (d.toNat : Int)).tmod 128) * ((128 ^ k : Nat) : Int))) = ((n + d.toNat % 128 * 128 ^ k : Nat) : Int) := by
        rw [w64 (n := (d.toNat : Int)) (by omega) (by omega), tmod128, ← Int.natCast_mul, w64 (n := ((d.toNat % 128 * 128 ^ k : Nat) : Int)) (by omega) (by omega), ← Int.natCast_add, w64 (by omega) (by omega)]
      conv => whnf
      refine ⟨by omega, by omega, ?_⟩
      conv => whnf
      refine ex2 d hd2 ?_
      conv => whnf
      refine ⟨by omega, by omega, ?_⟩
      conv => whnf
      refine ex2 d hd2 ?_
      conv => whnf
      refine br2 (fun g3 => ?_) (fun g3 => ?_)
      · have g3' : 128 ≤ d.toNat := by simp at g3; omega
        conv => whnf
        refine ⟨6 - (k + 1), [(0, 0)], [(0, .sl 0 none), (1, .lf (.int .i64 a)), (6, .lf (.int .i64 ((n + d.toNat % 128 * 128 ^ k : Nat) : Int))), (7, .lf (.int .i64 ((128 ^ (k + 1) : Nat) : Int))), (8, .lf (.int .i64 ((a + (k + 1) : Nat) : Int)))], [(0, some (.row .lent 1 encB l))], by omega, ⟨rfl, ⟨rfl, rfl, ?_, ?_, ?_, trivial⟩, ⟨rfl, trivial⟩⟩, k + 1, _, hD.step hd g3', by omega, by omega, rfl, rfl, rfl⟩
        · show V.lf (.int .i64 (IntKind.i64.wrap ((n : Int) + IntKind.i64.wrap (((IntKind.i64.wrap (d.toNat : Int)).tmod 128) * ((128 ^ k : Nat) : Int))))) = _
          rw [hn1]
        · show V.lf (.int .i64 (IntKind.i64.wrap (((128 ^ k : Nat) : Int) * 128))) = _
          rw [w64 (by omega) (by omega), Nat.pow_succ]; rfl
        · show V.lf (.int .i64 (IntKind.i64.wrap (((a + k : Nat) : Int) + 1))) = _
          rw [w64 (by omega) (by omega)]; rfl
      · have g3' : d.toNat < 128 := by simp at g3; omega
        have hm : d.toNat % 128 = d.toNat := Nat.mod_eq_of_lt g3'
        rw [hm] at hn1 b3
        conv => whnf
        refine ⟨1, UInt8, encB, encB_len, ?_⟩
        conv => whnf
        refine ⟨⟨[], ((n + d.toNat * 128 ^ k : Nat) : Int), by simp, by omega, by omega⟩, ?_, ?_⟩
        · show [[D.row 1 encB []], [D.lf (.int .i64 _)]] = [[D.row 1 encB []], [D.lf (.int .i64 _)]]
          rw [hn1]
        rintro _ _ ⟨rfl, rfl⟩
        have hN : numB ((n + d.toNat * 128 ^ k : Nat) : Int) = decide (n + d.toNat * 128 ^ k ≤ 1099511627775) := by
          simp only [numB]
          rw [show decide ((0 : Int) ≤ ((n + d.toNat * 128 ^ k : Nat) : Int)) = true from decide_eq_true (by omega), Bool.true_and]
          exact decide_eq_decide.2 (by omega)
        have hlen := dig_len hD.lt g3'
        have hle : (varB (n + d.toNat * 128 ^ k)).length ≤ 10 := varB_len (by omega)
        have hP : putB [] ((n + d.toNat * 128 ^ k : Nat) : Int) = decide (n + d.toNat * 128 ^ k ≤ 1099511627775) := by
          unfold putB
          rw [hN, Int.toNat_natCast, show decide (([] : List UInt8).length + (varB (n + d.toNat * 128 ^ k)).length ≤ 4096) = true from decide_eq_true (by simp; omega), Bool.and_true]
        conv => whnf
        refine br2 (fun g4 => ?_) (fun g4 => ?_)
        · conv => whnf
          replace g4 : (!putB [] ((n + d.toNat * 128 ^ k : Nat) : Int)) = true := g4
          rw [hP] at g4
          refine ⟨⟨rfl, 0, -1, rfl, gotN_bad hD hd g3' (.inl (by simpa using g4))⟩⟩
        · replace g4 : (!putB [] ((n + d.toNat * 128 ^ k : Nat) : Int)) = false := g4
          rw [hP] at g4
          have g4' : n + d.toNat * 128 ^ k ≤ 1099511627775 := by simpa using g4
          have hL : putL [] ((n + d.toNat * 128 ^ k : Nat) : Int) = varB (n + d.toNat * 128 ^ k) := by unfold putL; rw [if_pos (by rw [hP]; exact decide_eq_true g4'), Int.toNat_natCast]; rfl
          have hi : IntKind.i64.wrap (((a + k : Nat) : Int) + 1) = ((a + k + 1 : Nat) : Int) := by rw [w64 (by omega) (by omega)]; rfl
          have hw : IntKind.i64.wrap (IntKind.i64.wrap (((a + k : Nat) : Int) + 1) - (a : Int)) = ((k + 1 : Nat) : Int) := by rw [hi, w64 (by omega) (by omega)]; omega
          conv => whnf
          intro _
          conv => whnf
          refine br2 (fun g5 => ?_) (fun g5 => ?_)
          · replace g5 : (((putL [] ((n + d.toNat * 128 ^ k : Nat) : Int)).length : Int) != IntKind.i64.wrap (IntKind.i64.wrap (((a + k : Nat) : Int) + 1) - (a : Int))) = true := g5
            rw [hL, hw] at g5
            have g5' : (varB (n + d.toNat * 128 ^ k)).length ≠ k + 1 := by intro h; rw [h] at g5; simp at g5
            conv => whnf
            refine ⟨⟨rfl, 0, -1, rfl, gotN_bad hD hd g3' (.inr ?_)⟩⟩
            rw [Ne, hlen] at g5'
            omega
          · conv => whnf
            refine ⟨⟨rfl, _, _, ?_, gotN_of hD hd g3' g4'⟩⟩
            show [[D.lf (.int .i64 (IntKind.i64.wrap ((n : Int) + IntKind.i64.wrap (((IntKind.i64.wrap (d.toNat : Int)).tmod 128) * ((128 ^ k : Nat) : Int)))))], [D.lf (.int .i64 (IntKind.i64.wrap (((a + k : Nat) : Int) + 1)))]] = _
            rw [hn1, hi]
    · conv => whnf
      refine ⟨⟨rfl, 0, -1, rfl, hD.out (.inr ?_) hk1⟩⟩
      rw [w64 (by omega) (by omega)] at g2
      simp at g2; omega
  · conv => whnf
    refine ⟨⟨rfl, 0, -1, rfl, hD.out (.inl ?_) hk1⟩⟩
    simp at g1; omega
theorem sGetVar_ok : FnOk Try.prog 101 cGetVar := fnOk_of fun x => fn_at tab_ok (SOk.cons putVar_ok SOk.nil) mixed (fn := Try.f101) (code := body Try.f101) ⟨Try.func101, rfl, by kernel_rfl, by kernel_rfl, by kernel_rfl, by kernel_rfl⟩ (ev_sGetVar x)
end Go.Vm
namespace Go.Vm
open Go.Proofs
set_option maxRecDepth 100000
set_option linter.unusedVariables false
set_option linter.unusedSimpArgs false

theorem ev_iGetVar : ∀ x, evFn tab [] cGetVar Try.f169 (body Try.f169) x := by
  rintro ⟨l, a, hl, h1, h2⟩
  conv => whnf
  refine br2 (fun h3 => ?_) (fun h3 => ?_)
  · conv => whnf
    refine ⟨⟨rfl, 0, -1, rfl, gotN_none (.inl (by simpa using h3))⟩⟩
  have h3' : 0 ≤ a := by simpa using h3
  obtain ⟨a, rfl⟩ : ∃ k : Nat, a = k := ⟨a.toNat, by omega⟩
  conv => whnf
  refine ⟨fun m s h => ∃ k n : Nat, Dig l a k n ∧ (a + k ≤ l.length ∨ k = 0) ∧ k ≤ 6 ∧ m = 6 - k ∧ s = [(0, .sl 0 none), (1, .lf (.int .i64 a)), (6, .lf (.int .i64 n)), (7, .lf (.int .i64 ((128 ^ k : Nat) : Int))), (8, .lf (.int .i64 ((a + k : Nat) : Int)))] ∧ h = [(0, some (.row .lent 1 encB l))],
    6, [(0, 0)], [(0, .sl 0 none), (1, .lf (.int .i64 a)), (6, .lf (.int .i64 0)), (7, .lf (.int .i64 1)), (8, .lf (.int .i64 a))], [(0, some (.row .lent 1 encB l))], ⟨rfl, ⟨rfl, rfl, rfl, rfl, rfl, trivial⟩, ⟨rfl, trivial⟩⟩, ⟨0, 0, Dig.zero l a, by omega, by omega, rfl, rfl, rfl⟩, ?_⟩
  rintro m _ _ ⟨k, n, hD, hk1, hk2, rfl, rfl, rfl⟩
  conv => whnf
  intro _
  conv => whnf
  refine br2 (fun g1 => ?_) (fun g1 => ?_)
  · have hk : a + k < l.length := by simp at g1; omega
    have hw : IntKind.i64.wrap (((a + k : Nat) : Int) - (a : Int)) = (k : Int) := by rw [w64 (by omega) (by omega)]; omega
    conv => whnf
    refine br2 (fun g2 => ?_) (fun g2 => ?_)
    · have hk5 : k ≤ 5 := by rw [hw] at g2; simp at g2; omega
      obtain ⟨d, hd⟩ : ∃ d, l[a + k]? = some d := ⟨_, List.getElem?_eq_getElem hk⟩
      have hd2 : nth l ((a + k : Nat) : Int).toNat = some d := by rw [nth_eq, Int.toNat_natCast]; exact hd
      have hd8 := u8_lt d
      obtain ⟨b1, b2, b3⟩ := dig_bound hD hk5 hd8
      have p1 : (0 : Int) ≤ ((128 ^ k : Nat) : Int) := Int.natCast_nonneg _
      have p2 : ((128 ^ k : Nat) : Int) ≤ 34359738368 := Int.ofNat_le.2 b1
      have hdw : IntKind.i64.wrap (d.toNat : Int) = (d.toNat : Int) := w64 (by omega) (by omega)
      have hn1 : IntKind.i64.wrap ((n : Int) + IntKind.i64.wrap (((IntKind.i64.wrap (d.toNat : Int)).tmod 128) * ((128 ^ k : Nat) : Int))) = ((n + d.toNat % 128 * 128 ^ k : Nat) : Int) := by
        rw [hdw, tmod128, ← Int.natCast_mul, w64 (n := ((d.toNat % 128 * 128 ^ k : Nat) : Int)) (by omega) (by omega), ← Int.natCast_add, w64 (by omega) (by omega)]
      have hi : IntKind.i64.wrap (((a + k : Nat) : Int) + 1) = ((a + k + 1 : Nat) : Int) := by rw [w64 (by omega) (by omega)]; rfl
      conv => whnf
      refine ⟨by omega, by omega, ?_⟩
      conv => whnf
      refine ex2 d hd2 ?_
      conv => whnf
      refine br2 (fun g3 => ?_) (fun g3 => ?_)
      · have g3' : 128 ≤ d.toNat := by rw [hdw] at g3; simp at g3; omega
        conv => whnf
        refine ⟨6 - (k + 1), [(0, 0)], [(0, .sl 0 none), (1, .lf (.int .i64 a)), (6, .lf (.int .i64 ((n + d.toNat % 128 * 128 ^ k : Nat) : Int))), (7, .lf (.int .i64 ((128 ^ (k + 1) : Nat) : Int))), (8, .lf (.int .i64 ((a + (k + 1) : Nat) : Int)))], [(0, some (.row .lent 1 encB l))], by omega, ⟨rfl, ⟨rfl, rfl, ?_, ?_, ?_, trivial⟩, ⟨rfl, trivial⟩⟩, k + 1, _, hD.step hd g3', by omega, by omega, rfl, rfl, rfl⟩
        · show V.lf (.int .i64 (IntKind.i64.wrap ((n : Int) + IntKind.i64.wrap (((IntKind.i64.wrap (d.toNat : Int)).tmod 128) * ((128 ^ k : Nat) : Int))))) = _
          rw [hn1]
        · show V.lf (.int .i64 (IntKind.i64.wrap (((128 ^ k : Nat) : Int) * 128))) = _
          rw [w64 (by omega) (by omega), Nat.pow_succ]; rfl
        · show V.lf (.int .i64 (IntKind.i64.wrap (((a + k : Nat) : Int) + 1))) = _
          rw [hi]; rfl
      · have g3' : d.toNat < 128 := by rw [hdw] at g3; simp at g3; omega
        have hm : d.toNat % 128 = d.toNat := Nat.mod_eq_of_lt g3'
        rw [hm] at hn1 b3
        conv => whnf
        refine br2 (fun g4 => ?_) (fun g4 => ?_)
        · replace g4 : decide (IntKind.i64.wrap ((n : Int) + IntKind.i64.wrap (((IntKind.i64.wrap (d.toNat : Int)).tmod 128) * ((128 ^ k : Nat) : Int))) > 1099511627775) = true := g4
          rw [hn1] at g4
          conv => whnf
          exact ⟨⟨rfl, 0, -1, rfl, gotN_bad hD hd g3' (.inl (by have := of_decide_eq_true g4; omega))⟩⟩
        · replace g4 : decide (IntKind.i64.wrap ((n : Int) + IntKind.i64.wrap (((IntKind.i64.wrap (d.toNat : Int)).tmod 128) * ((128 ^ k : Nat) : Int))) > 1099511627775) = false := g4
          rw [hn1] at g4
          have g4' : n + d.toNat * 128 ^ k ≤ 1099511627775 := by have := of_decide_eq_false g4; omega
          have done : GotN l a ((n + d.toNat * 128 ^ k : Nat) : Int) ((a + k + 1 : Nat) : Int) := gotN_of hD hd g3' g4'
          conv => whnf
          refine br2 (fun g5 => ?_) (fun g5 => ?_)
          · replace g5 : (IntKind.i64.wrap (d.toNat : Int) == 0) = true := g5
            rw [hdw] at g5
            have g5' : d.toNat = 0 := by have := eq_of_beq g5; omega
            conv => whnf
            refine br2 (fun g6 => ?_) (fun g6 => ?_)
            · conv => whnf
              exact ⟨⟨rfl, 0, -1, rfl, gotN_bad hD hd g3' (.inr ⟨g5', by have := of_decide_eq_true g6; omega⟩)⟩⟩
            · conv => whnf
              refine ⟨⟨rfl, _, _, ?_, done⟩⟩
              show [[D.lf (.int .i64 (IntKind.i64.wrap ((n : Int) + IntKind.i64.wrap (((IntKind.i64.wrap (d.toNat : Int)).tmod 128) * ((128 ^ k : Nat) : Int)))))], [D.lf (.int .i64 (IntKind.i64.wrap (((a + k : Nat) : Int) + 1)))]] = _
              rw [hn1, hi]
          · conv => whnf
            refine ⟨⟨rfl, _, _, ?_, done⟩⟩
            show [[D.lf (.int .i64 (IntKind.i64.wrap ((n : Int) + IntKind.i64.wrap (((IntKind.i64.wrap (d.toNat : Int)).tmod 128) * ((128 ^ k : Nat) : Int)))))], [D.lf (.int .i64 (IntKind.i64.wrap (((a + k : Nat) : Int) + 1)))]] = _
            rw [hn1, hi]
    · conv => whnf
      refine ⟨⟨rfl, 0, -1, rfl, hD.out (.inr ?_) (by omega)⟩⟩
      rw [hw] at g2
      simp at g2; omega
  · conv => whnf
    have g1' : l.length ≤ a + k := by simp at g1; omega
    rcases hk1 with hk1 | hk1
    · exact ⟨⟨rfl, 0, -1, rfl, hD.out (.inl g1') hk1⟩⟩
    · exact ⟨⟨rfl, 0, -1, rfl, (show GotN l a 0 (-1) from gotN_none (.inr (by omega)))⟩⟩
theorem iGetVar_ok : FnOk Try.prog 169 cGetVar := fnOk_of fun x => fn_at tab_ok (SOk.nil) mixed (fn := Try.f169) (code := body Try.f169) ⟨Try.func169, rfl, by kernel_rfl, by kernel_rfl, by kernel_rfl, by kernel_rfl⟩ (ev_iGetVar x)

/-- What is read: a text and the place behind it; the text that stands there. -/
def GotT (l : List UInt8) (a : Int) (t : ByteArray) (nx : Int) : Prop :=
  (nx = -1 ∧ t = ⟨#[]⟩ ∨ 0 ≤ a ∧ a < nx ∧ nx ≤ l.length ∧ t.size ≤ l.length) ∧
    ∀ (pre : List UInt8) (u : ByteArray) (post : List UInt8), l = pre ++ encT u ++ post → a = pre.length → u.size ≤ 1099511627775 → t = u ∧ nx = pre.length + (encT u).length
def cGetText : Con := relC GetX [(.rd, false), (.rd, false)] [false, false] (fun x => [[.row 1 encB x.l], [.lf (.int .i64 x.a)]]) (fun x r => ∃ (t : ByteArray) (nx : Int), r = [[.lf (.string t)], [.lf (.int .i64 nx)]] ∧ GotT x.l x.a t nx)

theorem gotT_none {l : List UInt8} {a n nx : Int} (h : GotN l a n nx) (hb : nx < 0 ∨ (l.length : Int) - nx < n) : GotT l a ⟨#[]⟩ (-1) := by
  refine ⟨.inl ⟨rfl, rfl⟩, fun pre u post h1 h2 h3 => ?_⟩
  obtain ⟨e1, e2⟩ := h.2 pre u.size (bs u ++ post) (by rw [h1]; simp [encT]) h2 h3
  have := congrArg List.length h1
  simp only [List.length_append, encT, bs_len] at this
  omega
theorem gotT_of {l : List UInt8} {a : Int} {n nx : Nat} (h : GotN l a n nx) (hb : nx + n ≤ l.length) : GotT l a (ofB ((l.drop nx).take n)) ((nx + n : Nat) : Int) := by
  have h0 := h.1
  refine ⟨.inr ⟨by omega, by omega, by omega, by rw [of_size, List.length_take, List.length_drop]; omega⟩, fun pre u post h1 h2 h3 => ?_⟩
  obtain ⟨e1, e2⟩ := h.2 pre u.size (bs u ++ post) (by rw [h1]; simp [encT]) h2 h3
  have hn : n = u.size := by omega
  have hnx : nx = pre.length + (varB u.size).length := by omega
  refine ⟨?_, by simp only [encT, List.length_append, bs_len]; omega⟩
  have : (l.drop nx).take n = bs u := by
    rw [h1, hnx, hn, ← List.length_append]
    have : pre ++ encT u ++ post = (pre ++ varB u.size) ++ (bs u ++ post) := by simp [encT]
    rw [this, List.drop_left, ← bs_len, List.take_left]
  rw [this, of_bs]

theorem ev_sGetText : ∀ x, evFn tab [(101, cGetVar)] cGetText Try.f102 (body Try.f102) x := by
  rintro ⟨l, a, hl, h1, h2⟩
  conv => whnf
  refine ⟨⟨l, a, hl, h1, h2⟩, rfl, ?_⟩
  rintro _ _ ⟨rfl, n, nx, rfl, hG⟩
  have hG0 : nx = -1 ∧ n = 0 ∨ 0 ≤ n ∧ n ≤ 1099511627775 ∧ 0 ≤ a ∧ a < nx ∧ nx ≤ l.length := hG.1
  conv => whnf
  refine br2 (fun h3 => ?_) (fun h3 => ?_)
  · conv => whnf
    exact ⟨⟨rfl, ⟨#[]⟩, -1, rfl, gotT_none hG (.inl (of_decide_eq_true h3))⟩⟩
  have h3' : 0 ≤ nx := by have := of_decide_eq_false h3; omega
  conv => whnf
  intro _
  have hw : IntKind.i64.wrap ((l.length : Int) - nx) = (l.length : Int) - nx := w64 (by omega) (by omega)
  conv => whnf
  refine br2 (fun h4 => ?_) (fun h4 => ?_)
  · replace h4 : decide (n > IntKind.i64.wrap ((l.length : Int) - nx)) = true := h4
    rw [hw] at h4
    conv => whnf
    exact ⟨⟨rfl, ⟨#[]⟩, -1, rfl, gotT_none hG (.inr (by have := of_decide_eq_true h4; omega))⟩⟩
  replace h4 : decide (n > IntKind.i64.wrap ((l.length : Int) - nx)) = false := h4
  rw [hw] at h4
  have h4' : nx + n ≤ l.length := by have := of_decide_eq_false h4; omega
  have hw2 : IntKind.i64.wrap (nx + n) = nx + n := w64 (by omega) (by omega)
  obtain ⟨n, rfl⟩ : ∃ k : Nat, n = k := ⟨n.toNat, by omega⟩
  obtain ⟨nx, rfl⟩ : ∃ k : Nat, nx = k := ⟨nx.toNat, by omega⟩
  conv => whnf
  refine ⟨Int.natCast_nonneg _, by rw [hw2]; omega, by rw [hw2]; exact h4', ?_⟩
  conv => whnf
  refine ⟨(l.drop nx).take n, ?_, ?_⟩
  · show List.map encB ((l.drop (nx : Int).toNat).take (IntKind.i64.wrap ((nx : Int) + n) - nx).toNat) = _
    rw [hw2, Int.toNat_natCast, show ((nx : Int) + n - nx).toNat = n by omega]
  conv => whnf
  refine ⟨⟨rfl, _, _, ?_, gotT_of hG (show nx + n ≤ l.length by omega)⟩⟩
  show [[D.lf (.string _)], [D.lf (.int .i64 (IntKind.i64.wrap ((nx : Int) + n)))]] = _
  rw [hw2]; rfl
theorem sGetText_ok : FnOk Try.prog 102 cGetText := fnOk_of fun x => fn_at tab_ok (SOk.cons sGetVar_ok SOk.nil) mixed (fn := Try.f102) (code := body Try.f102) ⟨Try.func102, rfl, by kernel_rfl, by kernel_rfl, by kernel_rfl, by kernel_rfl⟩ (ev_sGetText x)
theorem ev_iGetText : ∀ x, evFn tab [(169, cGetVar)] cGetText Try.f170 (body Try.f170) x := by
  rintro ⟨l, a, hl, h1, h2⟩
  conv => whnf
  refine ⟨⟨l, a, hl, h1, h2⟩, rfl, ?_⟩
  rintro _ _ ⟨rfl, n, nx, rfl, hG⟩
  have hG0 : nx = -1 ∧ n = 0 ∨ 0 ≤ n ∧ n ≤ 1099511627775 ∧ 0 ≤ a ∧ a < nx ∧ nx ≤ l.length := hG.1
  conv => whnf
  refine br2 (fun h3 => ?_) (fun h3 => ?_)
  · conv => whnf
    exact ⟨⟨rfl, ⟨#[]⟩, -1, rfl, gotT_none hG (.inl (of_decide_eq_true h3))⟩⟩
  have h3' : 0 ≤ nx := by have := of_decide_eq_false h3; omega
  conv => whnf
  intro _
  have hw : IntKind.i64.wrap ((l.length : Int) - nx) = (l.length : Int) - nx := w64 (by omega) (by omega)
  conv => whnf
  refine br2 (fun h4 => ?_) (fun h4 => ?_)
  · replace h4 : decide (n > IntKind.i64.wrap ((l.length : Int) - nx)) = true := h4
    rw [hw] at h4
    conv => whnf
    exact ⟨⟨rfl, ⟨#[]⟩, -1, rfl, gotT_none hG (.inr (by have := of_decide_eq_true h4; omega))⟩⟩
  replace h4 : decide (n > IntKind.i64.wrap ((l.length : Int) - nx)) = false := h4
  rw [hw] at h4
  have h4' : nx + n ≤ l.length := by have := of_decide_eq_false h4; omega
  have hw2 : IntKind.i64.wrap (nx + n) = nx + n := w64 (by omega) (by omega)
  obtain ⟨n, rfl⟩ : ∃ k : Nat, n = k := ⟨n.toNat, by omega⟩
  obtain ⟨nx, rfl⟩ : ∃ k : Nat, nx = k := ⟨nx.toNat, by omega⟩
  conv => whnf
  refine ⟨Int.natCast_nonneg _, by rw [hw2]; omega, by rw [hw2]; exact h4', ?_⟩
  conv => whnf
  refine ⟨(l.drop nx).take n, ?_, ?_⟩
  · show List.map encB ((l.drop (nx : Int).toNat).take (IntKind.i64.wrap ((nx : Int) + n) - nx).toNat) = _
    rw [hw2, Int.toNat_natCast, show ((nx : Int) + n - nx).toNat = n by omega]
  conv => whnf
  refine ⟨⟨rfl, _, _, ?_, gotT_of hG (show nx + n ≤ l.length by omega)⟩⟩
  show [[D.lf (.string _)], [D.lf (.int .i64 (IntKind.i64.wrap ((nx : Int) + n)))]] = _
  rw [hw2]; rfl
theorem iGetText_ok : FnOk Try.prog 170 cGetText := fnOk_of fun x => fn_at tab_ok (SOk.cons iGetVar_ok SOk.nil) mixed (fn := Try.f170) (code := body Try.f170) ⟨Try.func170, rfl, by kernel_rfl, by kernel_rfl, by kernel_rfl, by kernel_rfl⟩ (ev_iGetText x)
end Go.Vm
namespace Go.Vm
open Go.Proofs
set_option maxRecDepth 100000
set_option linter.unusedVariables false
set_option linter.unusedSimpArgs false

/-! The order of texts -/
theorem bl_flip : ∀ a b : List UInt8, Op.bytesLess b a = !(Op.bytesLess a b || a == b)
  | [], [] => rfl
  | [], _ :: _ => by simp [Op.bytesLess]
  | _ :: _, [] => by simp [Op.bytesLess]
  | a :: x, b :: y => by
    have ih := bl_flip x y
    simp only [Op.bytesLess]
    rcases Nat.lt_trichotomy a.toNat b.toNat with h | h | h
    · have h1 : a < b := UInt8.lt_iff_toNat_lt.mpr h
      have h2 : ¬ b < a := fun e => by have := UInt8.lt_iff_toNat_lt.mp e; omega
      have h3 : a ≠ b := fun e => by subst e; omega
      simp [h1, h2, h3, Ne.symm h3]
    · have h1 : a = b := UInt8.toNat_inj.mp h
      subst h1
      have h2 : ¬ a < a := fun e => by have := UInt8.lt_iff_toNat_lt.mp e; omega
      simp only [h2, decide_false, Bool.false_or, beq_self_eq_true, Bool.true_and, ih, List.cons_beq_cons]
    · have h1 : b < a := UInt8.lt_iff_toNat_lt.mpr h
      have h2 : ¬ a < b := fun e => by have := UInt8.lt_iff_toNat_lt.mp e; omega
      have h3 : a ≠ b := fun e => by subst e; omega
      simp [h1, h2, h3]
theorem toList_inj {a b : ByteArray} (h : a.toList = b.toList) : a = b := by
  rw [ByteArray.toList_eq, ByteArray.toList_eq] at h
  obtain ⟨⟨x⟩⟩ := a
  obtain ⟨⟨y⟩⟩ := b
  simpa using h
theorem strEq_iff {a b : ByteArray} : strEq a b = true ↔ a = b := by
  unfold strEq
  rw [beq_iff_eq]
  exact ⟨toList_inj, fun h => by rw [h]⟩
theorem strEq_no {a b : ByteArray} : strEq a b = false ↔ a ≠ b := by
  rw [Ne, ← strEq_iff]; cases strEq a b <;> simp
theorem strEq_refl (a : ByteArray) : strEq a a = true := strEq_iff.2 rfl
theorem strEq_comm (a b : ByteArray) : strEq a b = strEq b a := by
  cases h : strEq a b with
  | true => rw [strEq_iff.1 h, strEq_refl]
  | false => exact (strEq_no.2 (Ne.symm (strEq_no.1 h))).symm
theorem strLt_flip (a b : ByteArray) : strLt b a = !(strLt a b || strEq a b) := bl_flip _ _
theorem strLt_gtr (a b : ByteArray) : (!(strLt b a || strEq b a)) = strLt a b := (strLt_flip b a).symm

def emp (s : ByteArray) : Bool := strEq s ⟨#[]⟩
theorem emp_iff {s : ByteArray} : emp s = true ↔ s = ⟨#[]⟩ := strEq_iff
theorem emp_no {s : ByteArray} : emp s = false ↔ s ≠ ⟨#[]⟩ := strEq_no

def userOkB (s : ByteArray) : Bool := decide (1 ≤ s.size) && decide (s.size ≤ 8)
def uvalOkB (s : ByteArray) : Bool := decide (s.size ≤ 20)
def keyOkB (s : ByteArray) : Bool := decide (1 ≤ s.size) && decide (s.size ≤ 16)
def rangeOkB (a b : ByteArray) : Bool := decide (a.size ≤ 17) && decide (b.size ≤ 17) && (emp b || strLt a b)
def reachOkB (a b : ByteArray) : Bool := rangeOkB a b && decide (a.size ≤ 9) && decide (b.size ≤ 9)

/-- A test of one text; of two in a struct. -/
def cS1 (f : ByteArray → Bool) : Con := pureC ByteArray [(.rd, false)] [false] (fun k => [[.lf (.string k)]]) (fun k => [[.lf (.bool (f k))]])
def cS2 (f : ByteArray → ByteArray → Bool) : Con := pureC (ByteArray × ByteArray) [(.rd, true)] [false] (fun k => [[.lf (.string k.1), .lf (.string k.2)]]) (fun k => [[.lf (.bool (f k.1 k.2))]])
def cUserOk : Con := cS1 userOkB
def cUvalOk : Con := cS1 uvalOkB
def cKeyOk : Con := cS1 keyOkB
def cRangeOk : Con := cS2 rangeOkB
def cReachOk : Con := cS2 reachOkB
structure WithinX where
  a : Int
  b : Int
  c : Int
def cWithin : Con := pureC WithinX [(.rd, false), (.rd, false), (.rd, false)] [false] (fun x => [[.lf (.int .i64 x.a)], [.lf (.int .i64 x.b)], [.lf (.int .i64 x.c)]]) (fun x => [[.lf (.bool (decide (x.b ≤ x.a) && decide (x.a ≤ x.c)))]])

theorem ev_sUserOk : ∀ x, evFn tab [] cUserOk Try.f112 (body Try.f112) x := by
  intro k
  repeat' ((conv => whnf); refine br2 (fun h => ?_) (fun h => ?_))
  all_goals (conv => whnf)
  all_goals refine ⟨⟨rfl, ?_⟩⟩
  · show _ = [[D.lf (.bool (userOkB k))]]
    have h1 := of_decide_eq_true h
    unfold userOkB
    rw [show decide (1 ≤ k.size) = true from decide_eq_true (by omega), Bool.true_and]
    congr 4
    exact decide_eq_decide.2 (by omega)
  · show _ = [[D.lf (.bool (userOkB k))]]
    have h1 := of_decide_eq_false h
    unfold userOkB
    rw [show decide (1 ≤ k.size) = false from decide_eq_false (by omega), Bool.false_and]
theorem sUserOk_ok : FnOk Try.prog 112 cUserOk := fnOk_of fun x => fn_at tab_ok (SOk.nil) mixed (fn := Try.f112) (code := body Try.f112) ⟨Try.func112, rfl, by kernel_rfl, by kernel_rfl, by kernel_rfl, by kernel_rfl⟩ (ev_sUserOk x)
theorem ev_sUvalOk : ∀ x, evFn tab [] cUvalOk Try.f113 (body Try.f113) x := by
  intro k
  conv => whnf
  refine ⟨⟨rfl, ?_⟩⟩
  show _ = [[D.lf (.bool (uvalOkB k))]]
  unfold uvalOkB
  congr 4
  exact decide_eq_decide.2 (by omega)
theorem sUvalOk_ok : FnOk Try.prog 113 cUvalOk := fnOk_of fun x => fn_at tab_ok (SOk.nil) mixed (fn := Try.f113) (code := body Try.f113) ⟨Try.func113, rfl, by kernel_rfl, by kernel_rfl, by kernel_rfl, by kernel_rfl⟩ (ev_sUvalOk x)
theorem ev_iUvalOk : ∀ x, evFn tab [] cUvalOk Try.f201 (body Try.f201) x := by
  intro k
  conv => whnf
  refine ⟨⟨rfl, ?_⟩⟩
  show _ = [[D.lf (.bool (uvalOkB k))]]
  unfold uvalOkB
  congr 4
  exact decide_eq_decide.2 (by omega)
theorem iUvalOk_ok : FnOk Try.prog 201 cUvalOk := fnOk_of fun x => fn_at tab_ok (SOk.nil) mixed (fn := Try.f201) (code := body Try.f201) ⟨Try.func201, rfl, by kernel_rfl, by kernel_rfl, by kernel_rfl, by kernel_rfl⟩ (ev_iUvalOk x)
theorem ev_within : ∀ x, evFn tab [] cWithin Try.f164 (body Try.f164) x := by
  rintro ⟨a, b, c⟩
  repeat' ((conv => whnf); refine br2 (fun h => ?_) (fun h => ?_))
  all_goals (conv => whnf)
  all_goals refine ⟨⟨rfl, ?_⟩⟩
  · show _ = [[D.lf (.bool (decide (b ≤ a) && decide (a ≤ c)))]]
    rw [show decide (b ≤ a) = true from h, Bool.true_and]
  · show _ = [[D.lf (.bool (decide (b ≤ a) && decide (a ≤ c)))]]
    rw [show decide (b ≤ a) = false from h, Bool.false_and]
theorem within_ok : FnOk Try.prog 164 cWithin := fnOk_of fun x => fn_at tab_ok (SOk.nil) mixed (fn := Try.f164) (code := body Try.f164) ⟨Try.func164, rfl, by kernel_rfl, by kernel_rfl, by kernel_rfl, by kernel_rfl⟩ (ev_within x)
theorem ev_iUserOk : ∀ x, evFn tab [(164, cWithin)] cUserOk Try.f200 (body Try.f200) x := by
  intro k
  conv => whnf
  refine ⟨⟨k.size, 1, 8⟩, rfl, ?_⟩
  rintro _ _ ⟨rfl, rfl⟩
  conv => whnf
  refine ⟨⟨rfl, ?_⟩⟩
  show [[D.lf (.bool (decide ((1 : Int) ≤ k.size) && decide ((k.size : Int) ≤ 8)))]] = [[D.lf (.bool (userOkB k))]]
  unfold userOkB
  rw [show decide ((1 : Int) ≤ k.size) = decide (1 ≤ k.size) from decide_eq_decide.2 (by omega), show decide ((k.size : Int) ≤ 8) = decide (k.size ≤ 8) from decide_eq_decide.2 (by omega)]
theorem iUserOk_ok : FnOk Try.prog 200 cUserOk := fnOk_of fun x => fn_at tab_ok (SOk.cons within_ok SOk.nil) mixed (fn := Try.f200) (code := body Try.f200) ⟨Try.func200, rfl, by kernel_rfl, by kernel_rfl, by kernel_rfl, by kernel_rfl⟩ (ev_iUserOk x)
theorem ev_iKeyOk : ∀ x, evFn tab [(164, cWithin)] cKeyOk Try.f127 (body Try.f127) x := by
  intro k
  conv => whnf
  refine ⟨⟨k.size, 1, 16⟩, rfl, ?_⟩
  rintro _ _ ⟨rfl, rfl⟩
  conv => whnf
  refine ⟨⟨rfl, ?_⟩⟩
  show [[D.lf (.bool (decide ((1 : Int) ≤ k.size) && decide ((k.size : Int) ≤ 16)))]] = [[D.lf (.bool (keyOkB k))]]
  unfold keyOkB
  rw [show decide ((1 : Int) ≤ k.size) = decide (1 ≤ k.size) from decide_eq_decide.2 (by omega), show decide ((k.size : Int) ≤ 16) = decide (k.size ≤ 16) from decide_eq_decide.2 (by omega)]
theorem iKeyOk_ok : FnOk Try.prog 127 cKeyOk := fnOk_of fun x => fn_at tab_ok (SOk.cons within_ok SOk.nil) mixed (fn := Try.f127) (code := body Try.f127) ⟨Try.func127, rfl, by kernel_rfl, by kernel_rfl, by kernel_rfl, by kernel_rfl⟩ (ev_iKeyOk x)
theorem natI (a b : Nat) : decide ((a : Int) ≤ b) = decide (a ≤ b) := decide_eq_decide.2 (by omega)
theorem natG (a b : Nat) : decide ((a : Int) > b) = !decide (a ≤ b) := by
  by_cases h : a ≤ b
  · rw [decide_eq_true h, decide_eq_false (by omega)]; rfl
  · rw [decide_eq_false h, decide_eq_true (by omega)]; rfl
theorem ev_sRangeOk : ∀ x, evFn tab [] cRangeOk Try.f176 (body Try.f176) x := by
  rintro ⟨a, b⟩
  repeat' ((conv => whnf); refine br2 (fun h => ?_) (fun h => ?_))
  all_goals (conv => whnf)
  all_goals refine ⟨⟨rfl, ?_⟩⟩
  all_goals show _ = [[D.lf (.bool (rangeOkB a b))]]
  · have h1 : ¬ a.size ≤ 17 := by have := of_decide_eq_true h; simp at this; omega
    simp [rangeOkB, h1]
  · rename_i h0
    have h1 : ¬ b.size ≤ 17 := by have := of_decide_eq_true h; simp at this; omega
    simp [rangeOkB, h1]
  · rename_i h1 h0
    have h3 : a.size ≤ 17 := by have := of_decide_eq_false h1; simp at this; omega
    have h4 : b.size ≤ 17 := by have := of_decide_eq_false h0; simp at this; omega
    have h5 : emp b = true := h
    simp [rangeOkB, h3, h4, h5]
  · rename_i h1 h0
    have h3 : a.size ≤ 17 := by have := of_decide_eq_false h1; simp at this; omega
    have h4 : b.size ≤ 17 := by have := of_decide_eq_false h0; simp at this; omega
    have h5 : emp b = false := h
    simp [rangeOkB, h3, h4, h5]
theorem sRangeOk_ok : FnOk Try.prog 176 cRangeOk := fnOk_of fun x => fn_at tab_ok (SOk.nil) mixed (fn := Try.f176) (code := body Try.f176) ⟨Try.func176, rfl, by kernel_rfl, by kernel_rfl, by kernel_rfl, by kernel_rfl⟩ (ev_sRangeOk x)
theorem ev_iRangeOk : ∀ x, evFn tab [] cRangeOk Try.f118 (body Try.f118) x := by
  rintro ⟨a, b⟩
  repeat' ((conv => whnf); refine br2 (fun h => ?_) (fun h => ?_))
  all_goals (conv => whnf)
  all_goals refine ⟨⟨rfl, ?_⟩⟩
  all_goals show _ = [[D.lf (.bool (rangeOkB a b))]]
  · rename_i h1 h0
    have h3 : a.size ≤ 17 := by have := of_decide_eq_true h1; simp at this; omega
    have h4 : b.size ≤ 17 := by have := of_decide_eq_true h0; simp at this; omega
    have h5 : emp b = true := h
    simp [rangeOkB, h3, h4, h5]
  · rename_i h1 h0
    have h3 : a.size ≤ 17 := by have := of_decide_eq_true h1; simp at this; omega
    have h4 : b.size ≤ 17 := by have := of_decide_eq_true h0; simp at this; omega
    have h5 : emp b = false := h
    show [[D.lf (.bool (!(strLt b a || strEq b a)))]] = _
    rw [strLt_gtr]
    simp [rangeOkB, h3, h4, h5]
  · rename_i h0
    have h1 : ¬ b.size ≤ 17 := by have := of_decide_eq_false h; simp at this; omega
    simp [rangeOkB, h1]
  · have h1 : ¬ a.size ≤ 17 := by have := of_decide_eq_false h; simp at this; omega
    simp [rangeOkB, h1]
theorem iRangeOk_ok : FnOk Try.prog 118 cRangeOk := fnOk_of fun x => fn_at tab_ok (SOk.nil) mixed (fn := Try.f118) (code := body Try.f118) ⟨Try.func118, rfl, by kernel_rfl, by kernel_rfl, by kernel_rfl, by kernel_rfl⟩ (ev_iRangeOk x)
theorem ev_sReachOk : ∀ x, evFn tab [(176, cRangeOk)] cReachOk Try.f174 (body Try.f174) x := by
  rintro ⟨a, b⟩
  conv => whnf
  refine ⟨(a, b), rfl, ?_⟩
  rintro _ _ ⟨rfl, rfl⟩
  repeat' ((conv => whnf); refine br2 (fun h => ?_) (fun h => ?_))
  all_goals (conv => whnf)
  all_goals refine ⟨⟨rfl, ?_⟩⟩
  all_goals show _ = [[D.lf (.bool (reachOkB a b))]]
  · rename_i h1
    have h2 : rangeOkB a b = true := h1
    have h3 : a.size ≤ 9 := by have := of_decide_eq_true h; simp at this; omega
    show [[D.lf (.bool (decide ((b.size : Int) ≤ (9 : Nat))))]] = _
    rw [natI]
    simp [reachOkB, h2, h3]
  · rename_i h1
    have h2 : rangeOkB a b = true := h1
    have h3 : ¬ a.size ≤ 9 := by have := of_decide_eq_false h; simp at this; omega
    simp [reachOkB, h2, h3]
  · have h2 : rangeOkB a b = false := h
    simp [reachOkB, h2]
theorem sReachOk_ok : FnOk Try.prog 174 cReachOk := fnOk_of fun x => fn_at tab_ok (SOk.cons sRangeOk_ok SOk.nil) mixed (fn := Try.f174) (code := body Try.f174) ⟨Try.func174, rfl, by kernel_rfl, by kernel_rfl, by kernel_rfl, by kernel_rfl⟩ (ev_sReachOk x)
theorem ev_iReachOk : ∀ x, evFn tab [(118, cRangeOk)] cReachOk Try.f202 (body Try.f202) x := by
  rintro ⟨a, b⟩
  conv => whnf
  refine ⟨(a, b), rfl, ?_⟩
  rintro _ _ ⟨rfl, rfl⟩
  repeat' ((conv => whnf); refine br2 (fun h => ?_) (fun h => ?_))
  all_goals (conv => whnf)
  all_goals refine ⟨⟨rfl, ?_⟩⟩
  all_goals show _ = [[D.lf (.bool (reachOkB a b))]]
  · rename_i h1
    have h2 : rangeOkB a b = true := h1
    have h3 : a.size ≤ 9 := by have := of_decide_eq_true h; simp at this; omega
    show [[D.lf (.bool (decide ((b.size : Int) ≤ (9 : Nat))))]] = _
    rw [natI]
    simp [reachOkB, h2, h3]
  · rename_i h1
    have h2 : rangeOkB a b = true := h1
    have h3 : ¬ a.size ≤ 9 := by have := of_decide_eq_false h; simp at this; omega
    simp [reachOkB, h2, h3]
  · have h2 : rangeOkB a b = false := h
    simp [reachOkB, h2]
theorem iReachOk_ok : FnOk Try.prog 202 cReachOk := fnOk_of fun x => fn_at tab_ok (SOk.cons iRangeOk_ok SOk.nil) mixed (fn := Try.f202) (code := body Try.f202) ⟨Try.func202, rfl, by kernel_rfl, by kernel_rfl, by kernel_rfl, by kernel_rfl⟩ (ev_iReachOk x)

/-! Records -/
structure RecX where
  kind : Int
  key : ByteArray
  val : ByteArray
  lo : ByteArray
  hi : ByteArray
def RecX.ds (r : RecX) : List D := [.lf (.int .i64 r.kind), .lf (.string r.key), .lf (.string r.val), .lf (.string r.lo), .lf (.string r.hi)]
def recOkB (r : RecX) : Bool :=
  if r.kind = 1 then userOkB r.key && uvalOkB r.val && (emp r.lo && emp r.hi)
  else if r.kind = 2 then userOkB r.key && emp r.val && (emp r.lo && emp r.hi)
  else if r.kind = 3 ∨ r.kind = 4 then emp r.key && emp r.val && reachOkB r.lo r.hi
  else false
def cRecOk : Con := pureC RecX [(.rd, true)] [false] (fun r => [r.ds]) (fun r => [[.lf (.bool (recOkB r))]])
theorem ev_sRecOk : ∀ x, evFn tab [(112, cUserOk), (113, cUvalOk), (174, cReachOk)] cRecOk Try.f156 (body Try.f156) x := by
  rintro ⟨kind, key, val, lo, hi⟩
  repeat' ((conv => whnf); first | refine br2 (fun h => ?_) (fun h => ?_) | (refine ⟨key, rfl, ?_⟩; rintro _ _ ⟨rfl, rfl⟩) | (refine ⟨val, rfl, ?_⟩; rintro _ _ ⟨rfl, rfl⟩) | (refine ⟨(lo, hi), rfl, ?_⟩; rintro _ _ ⟨rfl, rfl⟩))
  all_goals (conv => whnf)
  all_goals refine ⟨⟨rfl, ?_⟩⟩
  all_goals show _ = [[D.lf (.bool (recOkB ⟨kind, key, val, lo, hi⟩))]]
  all_goals simp_all [recOkB, emp]
theorem sRecOk_ok : FnOk Try.prog 156 cRecOk := fnOk_of fun x => fn_at tab_ok (SOk.cons sUserOk_ok (SOk.cons sUvalOk_ok (SOk.cons sReachOk_ok SOk.nil))) mixed (fn := Try.f156) (code := body Try.f156) ⟨Try.func156, rfl, by kernel_rfl, by kernel_rfl, by kernel_rfl, by kernel_rfl⟩ (ev_sRecOk x)
theorem ev_iRecOk : ∀ x, evFn tab [(200, cUserOk), (201, cUvalOk), (202, cReachOk)] cRecOk Try.f161 (body Try.f161) x := by
  rintro ⟨kind, key, val, lo, hi⟩
  repeat' ((conv => whnf); first | refine br2 (fun h => ?_) (fun h => ?_) | (refine ⟨key, rfl, ?_⟩; rintro _ _ ⟨rfl, rfl⟩) | (refine ⟨val, rfl, ?_⟩; rintro _ _ ⟨rfl, rfl⟩) | (refine ⟨(lo, hi), rfl, ?_⟩; rintro _ _ ⟨rfl, rfl⟩))
  all_goals (conv => whnf)
  all_goals refine ⟨⟨rfl, ?_⟩⟩
  all_goals show _ = [[D.lf (.bool (recOkB ⟨kind, key, val, lo, hi⟩))]]
  all_goals simp_all [recOkB, emp]
theorem iRecOk_ok : FnOk Try.prog 161 cRecOk := fnOk_of fun x => fn_at tab_ok (SOk.cons iUserOk_ok (SOk.cons iUvalOk_ok (SOk.cons iReachOk_ok SOk.nil))) mixed (fn := Try.f161) (code := body Try.f161) ⟨Try.func161, rfl, by kernel_rfl, by kernel_rfl, by kernel_rfl, by kernel_rfl⟩ (ev_iRecOk x)
theorem eqf_strs (a b : ByteArray) : (!strEq a b) = true ↔ a ≠ b := by rw [Bool.not_eq_true', strEq_no]

/-! Equal structs -/
structure Rng2 where
  a : ByteArray
  b : ByteArray
  c : ByteArray
  d : ByteArray
def cEqRange : Con := pureC Rng2 [(.rd, true), (.rd, true)] [false] (fun x => [[.lf (.string x.a), .lf (.string x.b)], [.lf (.string x.c), .lf (.string x.d)]]) (fun x => [[.lf (.bool (strEq x.a x.c && strEq x.b x.d))]])
theorem ev_eqRange : ∀ x, evFn tab [] cEqRange Try.f168 (body Try.f168) x := by
  rintro ⟨a, b, c, d⟩
  repeat' ((conv => whnf); refine br2 (fun h => ?_) (fun h => ?_))
  all_goals (conv => whnf)
  all_goals refine ⟨⟨rfl, ?_⟩⟩
  all_goals show _ = [[D.lf (.bool (strEq a c && strEq b d))]]
  all_goals simp_all
theorem eqRange_ok : FnOk Try.prog 168 cEqRange := fnOk_of fun x => fn_at tab_ok (SOk.nil) mixed (fn := Try.f168) (code := body Try.f168) ⟨Try.func168, rfl, by kernel_rfl, by kernel_rfl, by kernel_rfl, by kernel_rfl⟩ (ev_eqRange x)
noncomputable def cEqRec : Con := pureC (RecX × RecX) [(.rd, true), (.rd, true)] [false] (fun x => [x.1.ds, x.2.ds]) (fun x => [[.lf (.bool (eqX x.1 x.2))]])
theorem ev_eqRec : ∀ x, evFn tab [(168, cEqRange)] cEqRec Try.f163 (body Try.f163) x := by
  rintro ⟨⟨k, a, b, c, d⟩, ⟨k', a', b', c', d'⟩⟩
  repeat' ((conv => whnf); first | refine br2 (fun h => ?_) (fun h => ?_) | (refine ⟨⟨c, d, c', d'⟩, rfl, ?_⟩; rintro _ _ ⟨rfl, rfl⟩))
  all_goals (conv => whnf)
  all_goals refine ⟨⟨rfl, ?_⟩⟩
  all_goals show _ = [[D.lf (.bool (eqX (⟨k, a, b, c, d⟩ : RecX) ⟨k', a', b', c', d'⟩))]]
  all_goals congr 4
  all_goals rw [eq_comm]
  all_goals simp_all [strEq_iff, strEq_no, eqX_iff, eqX_no]
  exact fun e1 e2 => h.elim (fun h => h e1) (fun h => h e2)
theorem eqRec_ok : FnOk Try.prog 163 cEqRec := fnOk_of fun x => fn_at tab_ok (SOk.cons eqRange_ok SOk.nil) mixed (fn := Try.f163) (code := body Try.f163) ⟨Try.func163, rfl, by kernel_rfl, by kernel_rfl, by kernel_rfl, by kernel_rfl⟩ (ev_eqRec x)
end Go.Vm
namespace Go.Vm
open Go.Proofs
set_option maxRecDepth 100000
set_option linter.unusedVariables false
set_option linter.unusedSimpArgs false

structure TxX where
  c : Int
  e : Int
  n : Int
def TxX.ds (x : TxX) : List D := [.lf (.int .i64 x.c), .lf (.int .i64 x.e), .lf (.int .i64 x.n)]
structure RngX where
  lo : ByteArray
  hi : ByteArray
def RngX.ds (x : RngX) : List D := [.lf (.string x.lo), .lf (.string x.hi)]
structure LockX where
  tx : TxX
  rng : RngX
  ex : Bool
def LockX.ds (x : LockX) : List D := [.lf (.int .i64 x.tx.c), .lf (.int .i64 x.tx.e), .lf (.int .i64 x.tx.n), .lf (.string x.rng.lo), .lf (.string x.rng.hi), .lf (.bool x.ex)]
theorem LockX.len (x : LockX) : x.ds.length = 6 := rfl
theorem LockX.flat (x : LockX) : flatL x.ds = true := rfl

/-- A copy of a struct; of a slice; whether two are alike; how large one is. -/
def cCopy {X : Type} (ds : X → List D) : Con := pureC X [(.rd, true)] [true] (fun x => [ds x]) (fun x => [ds x])
noncomputable def cEq {X : Type} (ds : X → List D) : Con := pureC (X × X) [(.rd, true), (.rd, true)] [false] (fun x => [ds x.1, ds x.2]) (fun x => [[.lf (.bool (eqX x.1 x.2))]])
structure LstX (X : Type) where
  l : List X
  hl : l.length ≤ 1048576
def cCopyS {X : Type} (sz : Nat) (ds : X → List D) : Con := pureC (LstX X) [(.rd, false)] [false] (fun x => [[.row sz ds x.l]]) (fun x => [[.row sz ds x.l]])
noncomputable def cEqS {X : Type} (sz : Nat) (ds : X → List D) : Con := pureC (List X × List X) [(.rd, false), (.rd, false)] [false] (fun x => [[.row sz ds x.1], [.row sz ds x.2]]) (fun x => [[.lf (.bool (eqX x.1 x.2))]])
structure SzX (X : Type) (B0 : X → Prop) where
  x : X
  left : Int
  h1 : 0 ≤ left
  h2 : left ≤ 1048576
  hb : B0 x
/-- What is left behind a struct or a slice is not more; where it is no less than nothing, the sizes fit. -/
def cSz {X : Type} (ds : X → List D) (B0 B : X → Prop) : Con := relC (SzX X B0) [(.rd, true), (.rd, false)] [false] (fun x => [ds x.x, [.lf (.int .i64 x.left)]]) (fun x r => ∃ k : Int, r = [[.lf (.int .i64 k)]] ∧ -1 ≤ k ∧ k ≤ x.left ∧ (0 ≤ k → B x.x))
def cSzS {X : Type} (sz : Nat) (ds : X → List D) (B0 B : X → Prop) : Con := relC (SzX (List X) fun l => l.length ≤ 9223372036854775807 ∧ ∀ y ∈ l, B0 y) [(.rd, false), (.rd, false)] [false] (fun x => [[.row sz ds x.x], [.lf (.int .i64 x.left)]])
  (fun x r => ∃ k : Int, r = [[.lf (.int .i64 k)]] ∧ -1 ≤ k ∧ k ≤ x.left ∧ (0 ≤ k → x.x.length + k ≤ x.left ∧ ∀ y ∈ x.x, B y))
def maxS : Nat := 9223372036854775807
def rngB0 (x : RngX) : Prop := x.lo.size ≤ maxS ∧ x.hi.size ≤ maxS
def rngB (x : RngX) : Prop := x.lo.size ≤ 1048576 ∧ x.hi.size ≤ 1048576
def lockB0 (x : LockX) : Prop := rngB0 x.rng
def lockB (x : LockX) : Prop := rngB x.rng
theorem ev_szRange : ∀ x, evFn tab [] (cSz RngX.ds rngB0 rngB) Try.f40 (body Try.f40) x := by
  rintro ⟨⟨lo, hi⟩, left, h1, h2, hb1, hb2⟩
  replace hb1 : lo.size ≤ 9223372036854775807 := hb1
  replace hb2 : hi.size ≤ 9223372036854775807 := hb2
  conv => whnf
  have e1 : IntKind.i64.wrap (left - (lo.size : Int)) = left - lo.size := w64 (by omega) (by omega)
  refine br2 (fun h3 => ?_) (fun h3 => ?_)
  · conv => whnf
    exact ⟨⟨rfl, -1, rfl, by omega, (show (-1 : Int) ≤ left by omega), fun h => by omega⟩⟩
  · replace h3 : decide (IntKind.i64.wrap (left - (lo.size : Int)) < 0) = false := h3
    rw [e1] at h3
    have h3' := of_decide_eq_false h3
    conv => whnf
    have e2 : IntKind.i64.wrap (IntKind.i64.wrap (left - (lo.size : Int)) - (hi.size : Int)) = left - lo.size - hi.size := by rw [e1]; exact w64 (by omega) (by omega)
    refine br2 (fun h4 => ?_) (fun h4 => ?_)
    · conv => whnf
      exact ⟨⟨rfl, -1, rfl, by omega, (show (-1 : Int) ≤ left by omega), fun h => by omega⟩⟩
    · replace h4 : decide (IntKind.i64.wrap (IntKind.i64.wrap (left - (lo.size : Int)) - (hi.size : Int)) < 0) = false := h4
      rw [e2] at h4
      have h4' := of_decide_eq_false h4
      conv => whnf
      refine ⟨⟨rfl, _, rfl, ?_, ?_, fun _ => (⟨by omega, by omega⟩ : lo.size ≤ 1048576 ∧ hi.size ≤ 1048576)⟩⟩
      · show -1 ≤ IntKind.i64.wrap (IntKind.i64.wrap (left - (lo.size : Int)) - (hi.size : Int))
        rw [e2]; omega
      · show IntKind.i64.wrap (IntKind.i64.wrap (left - (lo.size : Int)) - (hi.size : Int)) ≤ left
        rw [e2]; omega
theorem szRange_ok : FnOk Try.prog 40 (cSz RngX.ds rngB0 rngB) := fnOk_of fun x => fn_at tab_ok (SOk.nil) mixed (fn := Try.f40) (code := body Try.f40) ⟨Try.func40, rfl, by kernel_rfl, by kernel_rfl, by kernel_rfl, by kernel_rfl⟩ (ev_szRange x)
theorem ev_szPair : ∀ x, evFn tab [] (cSz RngX.ds rngB0 rngB) Try.f147 (body Try.f147) x := by
  rintro ⟨⟨lo, hi⟩, left, h1, h2, hb1, hb2⟩
  replace hb1 : lo.size ≤ 9223372036854775807 := hb1
  replace hb2 : hi.size ≤ 9223372036854775807 := hb2
  conv => whnf
  have e1 : IntKind.i64.wrap (left - (lo.size : Int)) = left - lo.size := w64 (by omega) (by omega)
  refine br2 (fun h3 => ?_) (fun h3 => ?_)
  · conv => whnf
    exact ⟨⟨rfl, -1, rfl, by omega, (show (-1 : Int) ≤ left by omega), fun h => by omega⟩⟩
  · replace h3 : decide (IntKind.i64.wrap (left - (lo.size : Int)) < 0) = false := h3
    rw [e1] at h3
    have h3' := of_decide_eq_false h3
    conv => whnf
    have e2 : IntKind.i64.wrap (IntKind.i64.wrap (left - (lo.size : Int)) - (hi.size : Int)) = left - lo.size - hi.size := by rw [e1]; exact w64 (by omega) (by omega)
    refine br2 (fun h4 => ?_) (fun h4 => ?_)
    · conv => whnf
      exact ⟨⟨rfl, -1, rfl, by omega, (show (-1 : Int) ≤ left by omega), fun h => by omega⟩⟩
    · replace h4 : decide (IntKind.i64.wrap (IntKind.i64.wrap (left - (lo.size : Int)) - (hi.size : Int)) < 0) = false := h4
      rw [e2] at h4
      have h4' := of_decide_eq_false h4
      conv => whnf
      refine ⟨⟨rfl, _, rfl, ?_, ?_, fun _ => (⟨by omega, by omega⟩ : lo.size ≤ 1048576 ∧ hi.size ≤ 1048576)⟩⟩
      · show -1 ≤ IntKind.i64.wrap (IntKind.i64.wrap (left - (lo.size : Int)) - (hi.size : Int))
        rw [e2]; omega
      · show IntKind.i64.wrap (IntKind.i64.wrap (left - (lo.size : Int)) - (hi.size : Int)) ≤ left
        rw [e2]; omega
theorem szPair_ok : FnOk Try.prog 147 (cSz RngX.ds rngB0 rngB) := fnOk_of fun x => fn_at tab_ok (SOk.nil) mixed (fn := Try.f147) (code := body Try.f147) ⟨Try.func147, rfl, by kernel_rfl, by kernel_rfl, by kernel_rfl, by kernel_rfl⟩ (ev_szPair x)
theorem ev_szPairS : ∀ x, evFn tab [(147, (cSz RngX.ds rngB0 rngB))] (cSzS 2 RngX.ds rngB0 rngB) Try.f66 (body Try.f66) x := by
  rintro ⟨l, left, h1, h2, hb0, hb⟩
  replace hb0 : l.length ≤ 9223372036854775807 := hb0
  conv => whnf
  intro h3
  conv => whnf
  have e1 : IntKind.i64.wrap (left - (l.length : Int)) = left - l.length := w64 (by omega) (by omega)
  refine br2 (fun h4 => ?_) (fun h4 => ?_)
  · conv => whnf
    exact ⟨⟨rfl, -1, rfl, by omega, (show (-1 : Int) ≤ left by omega), fun h => by omega⟩⟩
  replace h4 : decide (IntKind.i64.wrap (left - (l.length : Int)) < 0) = false := h4
  rw [e1] at h4
  have h4' := of_decide_eq_false h4
  conv => whnf
  refine ⟨fun m s h => ∃ (i : Nat) (k : Int), i ≤ l.length ∧ 0 ≤ k ∧ k ≤ left - l.length ∧ (∀ j y, j < i → l[j]? = some y → rngB y) ∧ m = l.length - i ∧ s = [(0, .sl 0 none), (1, .lf (.int .i64 k)), (5, .lf (.int .i64 i))] ∧ h = [(0, some (.row .lent 2 RngX.ds l))],
    l.length, [(0, 0)], [(0, .sl 0 none), (1, .lf (.int .i64 (left - l.length))), (5, .lf (.int .i64 0))], [(0, some (.row .lent 2 RngX.ds l))], ⟨rfl, ⟨rfl, ?_, rfl, trivial⟩, ⟨rfl, trivial⟩⟩, ⟨0, left - l.length, by omega, by omega, by omega, fun j y h => by omega, by omega, rfl, rfl⟩, ?_⟩
  · show V.lf (.int .i64 (IntKind.i64.wrap (left - (l.length : Int)))) = _
    rw [e1]
  rintro m _ _ ⟨i, k, g1, g2, g3, g4, rfl, rfl, rfl⟩
  conv => whnf
  intro _
  conv => whnf
  refine br2 (fun h5 => ?_) (fun h5 => ?_)
  · have hi : i < l.length := by have := of_decide_eq_true h5; omega
    obtain ⟨y, hy⟩ : ∃ y, l[i]? = some y := ⟨_, List.getElem?_eq_getElem hi⟩
    have hy2 : nth l ((i : Nat) : Int).toNat = some y := by rw [nth_eq, Int.toNat_natCast]; exact hy
    conv => whnf
    refine ⟨Int.natCast_nonneg _, (show (i : Int) < (l.length : Int) by omega), ?_⟩
    conv => whnf
    refine ex2 y hy2 ?_
    conv => whnf
    refine ⟨⟨y, k, g2, by omega, hb y (List.mem_of_getElem? hy)⟩, rfl, ?_⟩
    rintro _ _ ⟨rfl, k', rfl, k1, k2, k3⟩
    replace k2 : k' ≤ k := k2
    conv => whnf
    refine br2 (fun h6 => ?_) (fun h6 => ?_)
    · conv => whnf
      exact ⟨⟨rfl, -1, rfl, by omega, (show (-1 : Int) ≤ left by omega), fun h => by omega⟩⟩
    · have h6' := of_decide_eq_false h6
      conv => whnf
      refine ⟨l.length - (i + 1), [(0, 0)], [(0, .sl 0 none), (1, .lf (.int .i64 k')), (5, .lf (.int .i64 ((i + 1 : Nat) : Int)))], [(0, some (.row .lent 2 RngX.ds l))], by omega, ⟨rfl, ⟨rfl, rfl, ?_, trivial⟩, ⟨rfl, trivial⟩⟩, i + 1, k', by omega, by omega, by omega, fun j z hj hz => ?_, rfl, rfl, rfl⟩
      · show V.lf (.int .i64 (IntKind.i64.wrap ((i : Int) + 1))) = _
        rw [w64 (by omega) (by omega)]; rfl
      · rcases Nat.lt_or_ge j i with h7 | h7
        · exact g4 j z h7 hz
        · obtain rfl : j = i := by omega
          rw [hy] at hz; cases hz; exact k3 (by omega)
  · have hi : i = l.length := by have := of_decide_eq_false h5; omega
    conv => whnf
    refine ⟨⟨rfl, k, rfl, by omega, (show k ≤ left by omega), fun _ => (⟨by omega, fun y hy => ?_⟩ : (l.length : Int) + k ≤ left ∧ ∀ y ∈ l, rngB y)⟩⟩
    obtain ⟨j, hj⟩ := List.getElem?_of_mem hy
    exact g4 j y (by rw [hi]; exact (List.getElem?_eq_some_iff.1 hj).1) hj
theorem szPairS_ok : FnOk Try.prog 66 (cSzS 2 RngX.ds rngB0 rngB) := fnOk_of fun x => fn_at tab_ok (SOk.cons szPair_ok SOk.nil) mixed (fn := Try.f66) (code := body Try.f66) ⟨Try.func66, rfl, by kernel_rfl, by kernel_rfl, by kernel_rfl, by kernel_rfl⟩ (ev_szPairS x)

theorem ev_toTx : ∀ x, evFn tab [] (cCopy TxX.ds) Try.f80 (body Try.f80) x := by
  intro x
  conv => whnf
  exact ⟨⟨rfl, rfl⟩⟩
theorem toTx_ok : FnOk Try.prog 80 (cCopy TxX.ds) := fnOk_of fun x => fn_at tab_ok (SOk.nil) mixed (fn := Try.f80) (code := body Try.f80) ⟨Try.func80, rfl, by kernel_rfl, by kernel_rfl, by kernel_rfl, by kernel_rfl⟩ (ev_toTx x)
theorem ev_toRange : ∀ x, evFn tab [] (cCopy RngX.ds) Try.f43 (body Try.f43) x := by
  intro x
  conv => whnf
  exact ⟨⟨rfl, rfl⟩⟩
theorem toRange_ok : FnOk Try.prog 43 (cCopy RngX.ds) := fnOk_of fun x => fn_at tab_ok (SOk.nil) mixed (fn := Try.f43) (code := body Try.f43) ⟨Try.func43, rfl, by kernel_rfl, by kernel_rfl, by kernel_rfl, by kernel_rfl⟩ (ev_toRange x)
theorem ev_toPair : ∀ x, evFn tab [] (cCopy RngX.ds) Try.f148 (body Try.f148) x := by
  intro x
  conv => whnf
  exact ⟨⟨rfl, rfl⟩⟩
theorem toPair_ok : FnOk Try.prog 148 (cCopy RngX.ds) := fnOk_of fun x => fn_at tab_ok (SOk.nil) mixed (fn := Try.f148) (code := body Try.f148) ⟨Try.func148, rfl, by kernel_rfl, by kernel_rfl, by kernel_rfl, by kernel_rfl⟩ (ev_toPair x)
theorem ev_eqTx : ∀ x, evFn tab [] (cEq TxX.ds) Try.f87 (body Try.f87) x := by
  rintro ⟨⟨a, b, c⟩, ⟨d, e, f⟩⟩
  repeat' ((conv => whnf); refine br2 (fun h => ?_) (fun h => ?_))
  all_goals (conv => whnf)
  all_goals refine ⟨⟨rfl, ?_⟩⟩
  all_goals show _ = [[D.lf (.bool (eqX (⟨a, b, c⟩ : TxX) ⟨d, e, f⟩))]]
  all_goals congr 4
  all_goals rw [eq_comm]
  all_goals simp_all [eqX_iff, eqX_no]
theorem eqTx_ok : FnOk Try.prog 87 (cEq TxX.ds) := fnOk_of fun x => fn_at tab_ok (SOk.nil) mixed (fn := Try.f87) (code := body Try.f87) ⟨Try.func87, rfl, by kernel_rfl, by kernel_rfl, by kernel_rfl, by kernel_rfl⟩ (ev_eqTx x)
theorem ev_eqPair : ∀ x, evFn tab [] (cEq RngX.ds) Try.f120 (body Try.f120) x := by
  rintro ⟨⟨a, b⟩, ⟨c, d⟩⟩
  repeat' ((conv => whnf); refine br2 (fun h => ?_) (fun h => ?_))
  all_goals (conv => whnf)
  all_goals refine ⟨⟨rfl, ?_⟩⟩
  all_goals show _ = [[D.lf (.bool (eqX (⟨a, b⟩ : RngX) ⟨c, d⟩))]]
  all_goals congr 4
  all_goals rw [eq_comm]
  all_goals simp_all [eqX_iff, eqX_no, strEq_iff, strEq_no]
theorem eqPair_ok : FnOk Try.prog 120 (cEq RngX.ds) := fnOk_of fun x => fn_at tab_ok (SOk.nil) mixed (fn := Try.f120) (code := body Try.f120) ⟨Try.func120, rfl, by kernel_rfl, by kernel_rfl, by kernel_rfl, by kernel_rfl⟩ (ev_eqPair x)
def rng0 : RngX := ⟨⟨#[]⟩, ⟨#[]⟩⟩
def lock0 : LockX := ⟨⟨0, 0, 0⟩, ⟨⟨#[]⟩, ⟨#[]⟩⟩, false⟩
theorem set_at {α : Type} {l : List α} {i j : Nat} {y : α} (hi : i < l.length) : (l.set i y)[j]? = if i = j then some y else l[j]? := by
  rw [List.getElem?_set]
  split
  · rename_i e; subst e; simp [hi]
  · rfl
theorem ev_toPairS : ∀ x, evFn tab [(148, (cCopy RngX.ds))] (cCopyS 2 RngX.ds) Try.f68 (body Try.f68) x := by
  rintro ⟨l, hl⟩
  conv => whnf
  intro h1
  conv => whnf
  refine ⟨Int.natCast_nonneg _, rfl, ?_, ?_⟩
  · show (l.length : Int) ≤ (4294967296 : Nat); omega
  conv => whnf
  refine ⟨RngX, RngX.ds, rng0, fun _ => rfl, rfl, ?_⟩
  conv => whnf
  refine ⟨fun m s h => ∃ (i : Nat) (l' : List RngX), i ≤ l.length ∧ l'.length = l.length ∧ (∀ j, j < i → l'[j]? = l[j]?) ∧ m = l.length - i ∧ s = [(0, .sl 0 none), (3, .sl 112 none), (4, .lf (.int .i64 i))] ∧ h = [(112, some (.row .own 2 RngX.ds l')), (0, some (.row .lent 2 RngX.ds l))],
    l.length, [(112, 112), (0, 0)], [(0, .sl 0 none), (3, .sl 112 none), (4, .lf (.int .i64 0))], [(112, some (.row .own 2 RngX.ds (List.replicate (l.length : Int).toNat rng0))), (0, some (.row .lent 2 RngX.ds l))], ⟨rfl, ⟨rfl, rfl, rfl, trivial⟩, ⟨rfl, rfl, trivial⟩⟩,
    ⟨0, _, by omega, by rw [List.length_replicate, Int.toNat_natCast], fun j h => by omega, by omega, rfl, rfl⟩, ?_⟩
  rintro m _ _ ⟨i, l', g1, g2, g3, rfl, rfl, rfl⟩
  conv => whnf
  intro _
  conv => whnf
  refine br2 (fun h5 => ?_) (fun h5 => ?_)
  · have hi : i < l.length := by have := of_decide_eq_true h5; omega
    obtain ⟨y, hy⟩ : ∃ y, l[i]? = some y := ⟨_, List.getElem?_eq_getElem hi⟩
    have hy2 : nth l ((i : Nat) : Int).toNat = some y := by rw [nth_eq, Int.toNat_natCast]; exact hy
    obtain ⟨z, hz⟩ : ∃ z, l'[i]? = some z := ⟨_, List.getElem?_eq_getElem (by omega)⟩
    have hz2 : nth l' ((i : Nat) : Int).toNat = some z := by rw [nth_eq, Int.toNat_natCast]; exact hz
    conv => whnf
    refine ⟨Int.natCast_nonneg _, (show (i : Int) < (l.length : Int) by omega), ?_⟩
    conv => whnf
    refine ex2 y hy2 ?_
    conv => whnf
    refine ⟨y, rfl, ?_⟩
    rintro _ _ ⟨rfl, rfl⟩
    conv => whnf
    refine ⟨Int.natCast_nonneg _, (show (i : Int) < (l'.length : Int) by omega), ?_⟩
    conv => whnf
    refine ex2 z hz2 ?_
    conv => whnf
    refine ⟨y, rfl, ?_⟩
    conv => whnf
    refine ⟨l.length - (i + 1), [(112, 112), (0, 0)], [(0, .sl 0 none), (3, .sl 112 none), (4, .lf (.int .i64 ((i + 1 : Nat) : Int)))], [(112, some (.row .own 2 RngX.ds (l'.set (i : Int).toNat y))), (0, some (.row .lent 2 RngX.ds l))], by omega, ⟨rfl, ⟨rfl, rfl, ?_, trivial⟩, ⟨rfl, rfl, trivial⟩⟩, i + 1, _, by omega, ?_, fun j hj => ?_, rfl, rfl, rfl⟩
    · show V.lf (.int .i64 (IntKind.i64.wrap ((i : Int) + 1))) = _
      rw [w64 (by omega) (by omega)]; rfl
    · rw [List.length_set]; exact g2
    · rw [Int.toNat_natCast, set_at (by omega)]
      split
      · rename_i e; subst e; exact hy.symm
      · exact g3 j (by omega)
  · have hi : i = l.length := by have := of_decide_eq_false h5; omega
    conv => whnf
    refine ⟨⟨rfl, ?_⟩⟩
    have : l' = l := by
      apply List.ext_getElem?
      intro j
      rcases Nat.lt_or_ge j l.length with h | h
      · exact g3 j (by omega)
      · rw [List.getElem?_eq_none (by omega), List.getElem?_eq_none h]
    show [[D.row _ RngX.ds l']] = [[D.row 2 RngX.ds l]]
    rw [this]
theorem toPairS_ok : FnOk Try.prog 68 (cCopyS 2 RngX.ds) := fnOk_of fun x => fn_at tab_ok (SOk.cons toPair_ok SOk.nil) mixed (fn := Try.f68) (code := body Try.f68) ⟨Try.func68, rfl, by kernel_rfl, by kernel_rfl, by kernel_rfl, by kernel_rfl⟩ (ev_toPairS x)
theorem ev_eqPairS : ∀ x, evFn tab [(120, (cEq RngX.ds))] (cEqS 2 RngX.ds) Try.f45 (body Try.f45) x := by
  rintro ⟨l, m⟩
  conv => whnf
  intro h1
  conv => whnf
  intro h2
  conv => whnf
  refine br2 (fun h3 => ?_) (fun h3 => ?_)
  · conv => whnf
    refine ⟨⟨rfl, ?_⟩⟩
    show _ = [[D.lf (.bool (eqX l m))]]
    have : l ≠ m := by rintro rfl; simp at h3
    rw [eqX_no.2 this]
  have hl : l.length = m.length := by
    replace h3 : ((l.length : Int) != (m.length : Int)) = false := h3
    simp at h3; omega
  conv => whnf
  refine ⟨fun k s h => ∃ i : Nat, i ≤ l.length ∧ (∀ j, j < i → l[j]? = m[j]?) ∧ k = l.length - i ∧ s = [(0, .sl 0 none), (1, .sl 16 none), (5, .lf (.int .i64 i))] ∧ h = [(0, some (.row .lent 2 RngX.ds l)), (16, some (.row .lent 2 RngX.ds m))],
    l.length, [(0, 0), (16, 16)], [(0, .sl 0 none), (1, .sl 16 none), (5, .lf (.int .i64 0))], [(0, some (.row .lent 2 RngX.ds l)), (16, some (.row .lent 2 RngX.ds m))], ⟨rfl, ⟨rfl, rfl, rfl, trivial⟩, ⟨rfl, rfl, trivial⟩⟩, ⟨0, by omega, fun j h => by omega, by omega, rfl, rfl⟩, ?_⟩
  rintro k _ _ ⟨i, g1, g2, rfl, rfl, rfl⟩
  conv => whnf
  intro h4
  conv => whnf
  refine br2 (fun h5 => ?_) (fun h5 => ?_)
  · have hi : i < l.length := by have := of_decide_eq_true h5; omega
    obtain ⟨y, hy⟩ : ∃ y, l[i]? = some y := ⟨_, List.getElem?_eq_getElem hi⟩
    have hy2 : nth l ((i : Nat) : Int).toNat = some y := by rw [nth_eq, Int.toNat_natCast]; exact hy
    obtain ⟨z, hz⟩ : ∃ z, m[i]? = some z := ⟨_, List.getElem?_eq_getElem (by omega)⟩
    have hz2 : nth m ((i : Nat) : Int).toNat = some z := by rw [nth_eq, Int.toNat_natCast]; exact hz
    conv => whnf
    refine ⟨Int.natCast_nonneg _, (show (i : Int) < (l.length : Int) by omega), ?_⟩
    conv => whnf
    refine ex2 y hy2 ?_
    conv => whnf
    refine ⟨Int.natCast_nonneg _, (show (i : Int) < (m.length : Int) by omega), ?_⟩
    conv => whnf
    refine ex2 z hz2 ?_
    conv => whnf
    refine ⟨(y, z), rfl, ?_⟩
    rintro _ _ ⟨rfl, rfl⟩
    conv => whnf
    refine br2 (fun h6 => ?_) (fun h6 => ?_)
    · replace h6 : (!eqX y z) = true := h6
      rw [Bool.not_eq_true', eqX_no] at h6
      conv => whnf
      refine ⟨⟨rfl, ?_⟩⟩
      show _ = [[D.lf (.bool (eqX l m))]]
      have : l ≠ m := by rintro rfl; rw [hy] at hz; cases hz; exact h6 rfl
      rw [eqX_no.2 this]
    · replace h6 : (!eqX y z) = false := h6
      rw [Bool.not_eq_false', eqX_iff] at h6
      conv => whnf
      refine ⟨l.length - (i + 1), [(0, 0), (16, 16)], [(0, .sl 0 none), (1, .sl 16 none), (5, .lf (.int .i64 ((i + 1 : Nat) : Int)))], [(0, some (.row .lent 2 RngX.ds l)), (16, some (.row .lent 2 RngX.ds m))], by omega, ⟨rfl, ⟨rfl, rfl, ?_, trivial⟩, ⟨rfl, rfl, trivial⟩⟩, i + 1, by omega, fun j hj => ?_, rfl, rfl, rfl⟩
      · show V.lf (.int .i64 (IntKind.i64.wrap ((i : Int) + 1))) = _
        replace h4 : l.length ≤ 9223372036854775807 := h4
        rw [w64 (by omega) (by omega)]; rfl
      · rcases Nat.lt_or_ge j i with h7 | h7
        · exact g2 j h7
        · obtain rfl : j = i := by omega
          rw [hy, hz, h6]
  · have hi : i = l.length := by have := of_decide_eq_false h5; omega
    conv => whnf
    refine ⟨⟨rfl, ?_⟩⟩
    show _ = [[D.lf (.bool (eqX l m))]]
    have : l = m := by
      apply List.ext_getElem?
      intro j
      rcases Nat.lt_or_ge j l.length with h | h
      · exact g2 j (by omega)
      · rw [List.getElem?_eq_none h, List.getElem?_eq_none (by omega)]
    rw [eqX_iff.2 this]
theorem eqPairS_ok : FnOk Try.prog 45 (cEqS 2 RngX.ds) := fnOk_of fun x => fn_at tab_ok (SOk.cons eqPair_ok SOk.nil) mixed (fn := Try.f45) (code := body Try.f45) ⟨Try.func45, rfl, by kernel_rfl, by kernel_rfl, by kernel_rfl, by kernel_rfl⟩ (ev_eqPairS x)

/-! Held and waiting locks -/
structure LocksX where
  held : List LockX
  wait : List LockX
def LocksX.ds (x : LocksX) : List D := [.row 6 LockX.ds x.held, .row 6 LockX.ds x.wait]
def locksB0 (x : LocksX) : Prop := (x.held.length ≤ 9223372036854775807 ∧ ∀ y ∈ x.held, lockB0 y) ∧ (x.wait.length ≤ 9223372036854775807 ∧ ∀ y ∈ x.wait, lockB0 y)
def locksB (x : LocksX) : Prop := x.held.length + x.wait.length ≤ 1048576 ∧ (∀ y ∈ x.held, lockB y) ∧ ∀ y ∈ x.wait, lockB y
structure LocksY where
  x : LocksX
  h1 : x.held.length ≤ 1048576
  h2 : x.wait.length ≤ 1048576
def cToLocks : Con := pureC LocksY [(.rd, true)] [true] (fun x => [x.x.ds]) (fun x => [x.x.ds])
end Go.Vm
namespace Go.Vm
open Go.Proofs
set_option maxRecDepth 100000
set_option linter.unusedVariables false
set_option linter.unusedSimpArgs false

def numL (n : Nat) : List UInt8 := if n < 10 then [UInt8.ofNat (48 + n)] else numL (n / 10) ++ [UInt8.ofNat (48 + n % 10)]
theorem numL_lt {n : Nat} (h : n < 10) : numL n = [UInt8.ofNat (48 + n)] := by rw [numL, if_pos h]
theorem numL_ge {n : Nat} (h : ¬ n < 10) : numL n = numL (n / 10) ++ [UInt8.ofNat (48 + n % 10)] := by rw [numL, if_neg h]
theorem numL_len {n k : Nat} (h : n < 10 ^ (k + 1)) : (numL n).length ≤ k + 1 := by
  induction k generalizing n with
  | zero => rw [numL_lt (by simpa using h)]; simp
  | succ k ih =>
    by_cases h0 : n < 10
    · rw [numL_lt h0]; simp
    · rw [numL_ge h0]
      have := ih (n := n / 10) (by rw [Nat.pow_succ] at h; exact Nat.div_lt_of_lt_mul (by omega))
      simp; omega
theorem numL_pos (n : Nat) : 1 ≤ (numL n).length := by
  by_cases h : n < 10
  · rw [numL_lt h]; simp
  · rw [numL_ge h]; simp
def numT (n : Int) : ByteArray := if numB n then ofB (numL n.toNat) else ⟨#[]⟩
theorem numT_no {n : Int} (h : numB n = false) : numT n = ⟨#[]⟩ := by rw [numT, if_neg (by rw [h]; simp)]
theorem numT_yes {k : Nat} (h : k ≤ 1099511627775) : numT (k : Int) = ofB (numL k) := by rw [numT, if_pos (by simp [numB]; omega), Int.toNat_natCast]
theorem numT_size (n : Int) : (numT n).size ≤ 13 := by
  unfold numT
  split
  · rename_i h
    rw [of_size]
    have : n.toNat < 10 ^ 13 := by simp [numB] at h; omega
    exact numL_len (k := 12) this
  · decide
def cNumText : Con := pureC IX [(.rd, false)] [false] (fun x => [[.lf (.int .i64 x.n)]]) (fun x => [[.lf (.string (numT x.n))]])
theorem dig_u8 {n : Int} {k : Nat} (h : n = k) (hk : k < 208) : IntKind.u8.wrap (IntKind.i64.wrap (48 + n)) = ((UInt8.ofNat (48 + k)).toNat : Int) := by
  subst h
  exact u8_of (k := 48 + k) (by rw [w64 (by omega) (by omega)]; omega) (by omega)
theorem ev_sNumText : ∀ n x, (fun x => x.n.toNat) x = n → evFnX tab [(78, cNumText.below (fun x => x.n.toNat) n), (114, cNum)] cNumText Try.f78 (body Try.f78) x := by
  rintro q ⟨n, h1, h2⟩ rfl
  conv => whnf
  refine ⟨⟨n, h1, h2⟩, rfl, ?_⟩
  rintro _ _ ⟨rfl, rfl⟩
  conv => whnf
  refine br2 (fun h3 => ?_) (fun h3 => ?_)
  · have h3' : numB n = false := by simpa using h3
    conv => whnf
    refine ⟨⟨rfl, ?_⟩⟩
    show _ = [[D.lf (.string (numT n))]]
    rw [numT_no h3']
  have h3' : numB n = true := by simpa using h3
  obtain ⟨h4, h5⟩ : 0 ≤ n ∧ n ≤ 1099511627775 := by simpa [numB] using h3'
  obtain ⟨k, rfl⟩ : ∃ k : Nat, n = k := ⟨n.toNat, by omega⟩
  conv => whnf
  refine br2 (fun h6 => ?_) (fun h6 => ?_)
  · have h6' : k < 10 := by have h6' : (k : Int) < 10 := of_decide_eq_true h6; omega
    conv => whnf
    refine ⟨[UInt8.ofNat (48 + k)], by
      show [[D.lf (.int .u8 (IntKind.u8.wrap (IntKind.i64.wrap (48 + (k : Int)))))]] = _
      rw [dig_u8 rfl (by omega)]; rfl, ?_⟩
    conv => whnf
    refine ⟨⟨rfl, ?_⟩⟩
    show _ = [[D.lf (.string (numT (k : Int)))]]
    rw [numT_yes (by omega), numL_lt h6']; rfl
  have h6' : ¬ k < 10 := by have h6' : ¬ (k : Int) < 10 := of_decide_eq_false h6; omega
  have hd : IntKind.i64.wrap ((k : Int).tdiv 10) = ((k / 10 : Nat) : Int) := by rw [tdiv10, w64 (by omega) (by omega)]
  have hE : [[D.lf (.int .u8 (IntKind.u8.wrap (IntKind.i64.wrap (48 + (k : Int).tmod 10))))]] = [UInt8.ofNat (48 + k % 10)].map encB := by
    rw [dig_u8 (tmod10 k) (by omega)]; rfl
  have hI : [[D.lf (.int .i64 ((k / 10 : Nat) : Int))]] = [[D.lf (.int .i64 (IntKind.i64.wrap ((k : Int).tdiv 10)))]] := by rw [hd]
  have hs := numT_size ((k / 10 : Nat) : Int)
  have hF : [[D.lf (.string (numT ((k / 10 : Nat) : Int) ++ ⟨[UInt8.ofNat (48 + k % 10)].toArray⟩))]] = [[D.lf (.string (numT (k : Int)))]] := by
    rw [numT_yes (k := k) (by omega), numT_yes (k := k / 10) (by omega), numL_ge h6']
    congr 4
  repeat' ((conv => whnf); first
    | refine rc_i rfl ?_
    | refine rc_i ⟨_, hE, rfl⟩ ?_
    | refine ⟨_, hE, ?_⟩
    | (refine ⟨⟨⟨((k / 10 : Nat) : Int), by omega, by omega⟩, (show ((k / 10 : Nat) : Int).toNat < (k : Int).toNat by omega)⟩, hI, ?_⟩; rintro _ _ ⟨rfl, rfl⟩)
    | refine ⟨(show (numT ((k / 10 : Nat) : Int)).size + 1 ≤ 4294967296 by omega), ?_⟩
    | exact ⟨⟨rfl, hF⟩⟩
    | refine ⟨?_, ?_⟩)
theorem sNumText_ok : FnOk Try.prog 78 cNumText := fn_rec (fun x => x.n.toNat) fun n hs x hx => fnX_at tab_ok (SOk.cons hs (SOk.cons l01Num_ok SOk.nil)) mixed (fn := Try.f78) (code := body Try.f78) ⟨Try.func78, rfl, by kernel_rfl, by kernel_rfl, by kernel_rfl, by kernel_rfl⟩ (ev_sNumText n x hx)
end Go.Vm
namespace Go.Vm
open Go.Proofs
set_option maxRecDepth 100000
set_option linter.unusedVariables false
set_option linter.unusedSimpArgs false

structure CurX where
  b : List UInt8
  i : Int
  h : Int
  hb : b.length ≤ 1048576
  h1 : 0 ≤ i
  h2 : i ≤ b.length
  h3 : -9223372036854775808 ≤ h
  h4 : h ≤ 9223372036854775807
def CurX.d (c : CurX) : D := .box [.sh (.row 1 encB c.b), .lf (.int .i64 c.i), .lf (.int .i64 c.h)]
theorem wrap_lo (n : Int) : -9223372036854775808 ≤ IntKind.i64.wrap n := by simp [IntKind.wrap, IntKind.bits, IntKind.signed]; omega
theorem wrap_hi (n : Int) : IntKind.i64.wrap n ≤ 9223372036854775807 := by simp [IntKind.wrap, IntKind.bits, IntKind.signed]; omega
theorem and255 (a : Int) : 0 ≤ IntKind.i64.wrap ((BitVec.ofInt 64 a &&& BitVec.ofInt 64 255).toNat : Int) ∧ IntKind.i64.wrap ((BitVec.ofInt 64 a &&& BitVec.ofInt 64 255).toNat : Int) ≤ 255 := by
  have h : (BitVec.ofInt 64 a &&& BitVec.ofInt 64 255).toNat ≤ 255 := by
    rw [BitVec.toNat_and]
    exact Nat.le_trans Nat.and_le_right (by decide)
  rw [w64 (by omega) (by omega)]; omega
/-- What a draw of a number tells: it is within bounds. -/
def cByte : Con := { X := CurX, params := [(.mut, false)], res := [false], resOwn := true, ins := fun c => [[c.d]], post := fun _ outs r => ∃ (c : CurX) (v : Int), outs = [[c.d]] ∧ r = [[.lf (.int .i64 v)]] ∧ 0 ≤ v ∧ v ≤ 255 }
structure CodeX where
  b : List UInt8
  hb : b.length ≤ 1048576
def cNew : Con := { X := CodeX, params := [(.keep, false)], res := [false], resOwn := true, ins := fun c => [[.row 1 encB c.b]], post := fun _ outs r => outs = [] ∧ ∃ c : CurX, r = [[c.d]] }
theorem ev_l01New : ∀ x, evFnX tab [] cNew Try.f107 (body Try.f107) x := by
  rintro ⟨l, hb⟩
  conv => whnf
  intro _
  conv => whnf
  have hw : IntKind.i64.wrap (789392 + (l.length : Int)) = 789392 + (l.length : Int) := w64 (by omega) (by omega)
  refine ⟨fun m s h => ∃ (i : Nat) (q : Int), i ≤ l.length ∧ m = l.length - i ∧ -9223372036854775808 ≤ q ∧ q ≤ 9223372036854775807 ∧ s = [(0, .sl 0 none), (3, .lf (.int .i64 q)), (4, .lf (.int .i64 i))] ∧ h = [(0, some (.row .ro 1 encB l))],
    l.length, [(0, 0)], [(0, .sl 0 none), (3, .lf (.int .i64 _)), (4, .lf (.int .i64 0))], [(0, some (.row .ro 1 encB l))], ⟨rfl, ⟨rfl, rfl, rfl, trivial⟩, rfl, trivial⟩, ⟨0, _, by omega, by omega, wrap_lo _, wrap_hi _, rfl, rfl⟩, ?_⟩
  rintro m _ _ ⟨i, q, g1, rfl, g2, g3, rfl, rfl⟩
  conv => whnf
  intro _
  conv => whnf
  have out : ∃ c : CurX, [[D.box [.sh (.row 1 encB l), .lf (.int .i64 0), .lf (.int .i64 q)]]] = [[c.d]] := ⟨⟨l, 0, q, hb, by omega, by omega, g2, g3⟩, rfl⟩
  refine br2 (fun h5 => ?_) (fun h5 => ?_)
  · have hi : i < l.length := by have := of_decide_eq_true h5; omega
    obtain ⟨y, hy⟩ := getL hi
    conv => whnf
    refine br2 (fun h6 => ?_) (fun h6 => ?_)
    · conv => whnf
      refine ⟨Int.natCast_nonneg _, (show (i : Int) < (l.length : Int) by omega), ?_⟩
      conv => whnf
      refine ex2 y (nthI hy) ?_
      conv => whnf
      refine ⟨l.length - (i + 1), [(0, 0)], [(0, .sl 0 none), (3, .lf (.int .i64 _)), (4, .lf (.int .i64 ((i + 1 : Nat) : Int)))], [(0, some (.row .ro 1 encB l))], by omega, ⟨rfl, ⟨rfl, rfl, ?_, trivial⟩, rfl, trivial⟩, i + 1, _, by omega, rfl, wrap_lo _, wrap_hi _, rfl, rfl⟩
      show V.lf (.int .i64 (IntKind.i64.wrap ((i : Int) + 1))) = _
      rw [w64 (by omega) (by omega)]; rfl
    · conv => whnf
      exact ⟨⟨rfl, out⟩⟩
  · conv => whnf
    exact ⟨⟨rfl, out⟩⟩
theorem l01New_ok : FnOk Try.prog 107 cNew := fnOk_of fun x => fnX_at tab_ok (SOk.nil) mixed (fn := Try.f107) (code := body Try.f107) ⟨Try.func107, rfl, by kernel_rfl, by kernel_rfl, by kernel_rfl, by kernel_rfl⟩ (ev_l01New x)
theorem ev_l01Byte : ∀ x, evFnX tab [] cByte Try.f183 (body Try.f183) x := by
  rintro ⟨l, i, q, hb, h1, h2, h3, h4⟩
  replace hb : l.length ≤ 1048576 := hb
  replace h2 : i ≤ (l.length : Int) := h2
  conv => whnf
  intro _
  conv => whnf
  refine br2 (fun h5 => ?_) (fun h5 => ?_)
  · have hi : i < (l.length : Int) := of_decide_eq_true h5
    obtain ⟨y, hy⟩ := getL (l := l) (j := i.toNat) (by omega)
    have hy2 : nth l i.toNat = some y := by rw [nth_eq]; exact hy
    conv => whnf
    refine ⟨h1, hi, ?_⟩
    conv => whnf
    refine ex2 y hy2 ?_
    conv => whnf
    repeat (refine rc_i rfl ?_; conv => whnf)
    have e1 : IntKind.i64.wrap (i + 1) = i + 1 := w64 (by omega) (by omega)
    refine ⟨⟨⟨l, IntKind.i64.wrap (i + 1), IntKind.i64.wrap (IntKind.i64.wrap (q * 6364136223846793005) + 1442695040888963407), hb, by omega, by omega, wrap_lo _, wrap_hi _⟩, _, rfl, rfl, (and255 _).1, (and255 _).2⟩⟩
  · conv => whnf
    exact ⟨⟨⟨l, i, _, hb, h1, h2, wrap_lo _, wrap_hi _⟩, _, rfl, rfl, (and255 _).1, (and255 _).2⟩⟩
theorem l01Byte_ok : FnOk Try.prog 183 cByte := fnOk_of fun x => fnX_at tab_ok (SOk.nil) mixed (fn := Try.f183) (code := body Try.f183) ⟨Try.func183, rfl, by kernel_rfl, by kernel_rfl, by kernel_rfl, by kernel_rfl⟩ (ev_l01Byte x)
structure BelowX where
  c : CurX
  n : Int
  h : n ≤ 9223372036854775807
def cBelow : Con := { X := BelowX, params := [(.mut, false), (.rd, false)], res := [false], resOwn := true, ins := fun x => [[x.c.d], [.lf (.int .i64 x.n)]], post := fun x outs r => ∃ (c : CurX) (v : Int), outs = [[c.d]] ∧ r = [[.lf (.int .i64 v)]] ∧ 0 ≤ v ∧ (0 < x.n → v < x.n) ∧ (x.n ≤ 0 → v = 0) }
theorem ev_l01Below : ∀ x, evFnX tab [(183, cByte)] cBelow Try.f125 (body Try.f125) x := by
  rintro ⟨c, n, h⟩
  conv => whnf
  refine br2 (fun h5 => ?_) (fun h5 => ?_)
  · have h5' : n ≤ 0 := of_decide_eq_true h5
    conv => whnf
    exact ⟨⟨c, 0, rfl, rfl, by omega, fun h => absurd h (show ¬ 0 < n by omega), fun _ => rfl⟩⟩
  have h5' : 0 < n := by have h6 : ¬ n ≤ 0 := of_decide_eq_false h5; omega
  have hrem : ∀ a : Int, 0 ≤ a → 0 ≤ a.tmod n ∧ a.tmod n < n := fun a ha => ⟨Int.tmod_nonneg _ ha, Int.tmod_lt_of_pos _ h5'⟩
  conv => whnf
  refine br2 (fun h6 => ?_) (fun h6 => ?_)
  · conv => whnf
    refine ⟨c, rfl, ?_⟩
    rintro _ _ ⟨c1, v1, rfl, rfl, a1, b1⟩
    conv => whnf
    refine br2 (fun h7 => ?_) (fun h7 => ?_)
    · exfalso; have : n = 0 := of_decide_eq_true h7; omega
    conv => whnf
    exact ⟨⟨c1, v1.tmod n, rfl, rfl, (hrem v1 a1).1, fun _ => (hrem v1 a1).2, fun h => absurd h (show ¬ n ≤ 0 by omega)⟩⟩
  conv => whnf
  refine ⟨c, rfl, ?_⟩
  rintro _ _ ⟨c1, v1, rfl, rfl, a1, b1⟩
  conv => whnf
  refine ⟨c1, rfl, ?_⟩
  rintro _ _ ⟨c2, v2, rfl, rfl, a2, b2⟩
  conv => whnf
  refine ⟨c2, rfl, ?_⟩
  rintro _ _ ⟨c3, v3, rfl, rfl, a3, b3⟩
  conv => whnf
  refine ⟨c3, rfl, ?_⟩
  rintro _ _ ⟨c4, v4, rfl, rfl, a4, b4⟩
  conv => whnf
  refine br2 (fun h7 => ?_) (fun h7 => ?_)
  · exfalso; have : n = 0 := of_decide_eq_true h7; omega
  conv => whnf
  have e1 : 0 ≤ IntKind.i64.wrap (IntKind.i64.wrap (IntKind.i64.wrap (IntKind.i64.wrap (v1 * 16777216) + IntKind.i64.wrap (v2 * 65536)) + IntKind.i64.wrap (v3 * 256)) + v4) := by
    rw [w64 (n := v1 * 16777216) (by omega) (by omega), w64 (n := v2 * 65536) (by omega) (by omega), w64 (n := v3 * 256) (by omega) (by omega), w64 (n := v1 * 16777216 + v2 * 65536) (by omega) (by omega),
      w64 (n := v1 * 16777216 + v2 * 65536 + v3 * 256) (by omega) (by omega), w64 (by omega) (by omega)]
    omega
  exact ⟨⟨c4, _, rfl, rfl, (hrem _ e1).1, fun _ => (hrem _ e1).2, fun h => absurd h (show ¬ n ≤ 0 by omega)⟩⟩
theorem l01Below_ok : FnOk Try.prog 125 cBelow := fnOk_of fun x => fnX_at tab_ok (SOk.cons l01Byte_ok SOk.nil) mixed (fn := Try.f125) (code := body Try.f125) ⟨Try.func125, rfl, by kernel_rfl, by kernel_rfl, by kernel_rfl, by kernel_rfl⟩ (ev_l01Below x)
/-- A draw: what it tells has property P. -/
def cDraw {α : Type} (g : Bool) (enc : α → List D) (P : α → Prop) : Con := { X := CurX, params := [(.mut, false)], res := [g], resOwn := true, ins := fun c => [[c.d]], post := fun _ outs r => ∃ (c : CurX) (a : α), outs = [[c.d]] ∧ r = [enc a] ∧ P a }
def intE (n : Int) : List D := [.lf (.int .i64 n)]
def strE (s : ByteArray) : List D := [.lf (.string s)]
/-- One of a few texts, of a few numbers. -/
def strEls (k : Nat) : List (List V) → Bool
  | [] => true
  | [.lf (.string s)] :: r => match Nat.ble s.size k with | true => strEls k r | false => false
  | _ => false
def intEls : List (List V) → Bool
  | [] => true
  | [.lf (.int .i64 n)] :: r => match decide (-9223372036854775808 ≤ n), decide (n ≤ 9223372036854775807) with | true, true => intEls r | _, _ => false
  | _ => false
theorem exStr (k : Nat) {els : List (List V)} {i : Nat} {Q : List V → Prop} (ha : strEls k els = true) (hi : i < els.length) (h : ∀ s : ByteArray, s.size ≤ k → Q [.lf (.string s)]) : ex (nth els i) Q := by
  induction els generalizing i with
  | nil => simp at hi
  | cons e r ih =>
    unfold strEls at ha
    split at ha
    · rename_i h0; cases h0
    · rename_i s r' h0
      cases h0
      split at ha
      · rename_i hs
        cases i with
        | zero => exact h s (Nat.le_of_ble_eq_true hs)
        | succ i => exact ih ha (by simpa using hi)
      · cases ha
    · cases ha
theorem exInt {els : List (List V)} {i : Nat} {Q : List V → Prop} (ha : intEls els = true) (hi : i < els.length) (h : ∀ n : Int, -9223372036854775808 ≤ n → n ≤ 9223372036854775807 → Q [.lf (.int .i64 n)]) : ex (nth els i) Q := by
  induction els generalizing i with
  | nil => simp at hi
  | cons e r ih =>
    unfold intEls at ha
    split at ha
    · rename_i h0; cases h0
    · rename_i s r' h0
      cases h0
      split at ha
      · rename_i hs1 hs2
        cases i with
        | zero => exact h s (of_decide_eq_true hs1) (of_decide_eq_true hs2)
        | succ i => exact ih ha (by simpa using hi)
      · cases ha
    · cases ha
def intP (n : Int) : Prop := -9223372036854775808 ≤ n ∧ n ≤ 9223372036854775807
def strP (k : Nat) (s : ByteArray) : Prop := s.size ≤ k
theorem useBelow {c : CurX} {n : Int} {ds : List (List D)} {Q : List (List D) → List (List D) → Prop} (hd : [[c.d], [.lf (.int .i64 n)]] = ds) (hn : n ≤ 9223372036854775807)
    (h : ∀ (c' : CurX) (v : Int), 0 ≤ v → (0 < n → v < n) → (n ≤ 0 → v = 0) → Q [[c'.d]] [[.lf (.int .i64 v)]]) : ∃ x, cBelow.ins x = ds ∧ ∀ outs res, cBelow.post x outs res → Q outs res := by
  refine ⟨⟨c, n, hn⟩, hd, ?_⟩
  rintro _ _ ⟨c1, v, rfl, rfl, a1, a2, a3⟩
  exact h c1 v a1 a2 a3
theorem useDraw {α : Type} {g : Bool} {enc : α → List D} {P : α → Prop} {c : CurX} {ds : List (List D)} {Q : List (List D) → List (List D) → Prop} (hd : [[c.d]] = ds)
    (h : ∀ (c' : CurX) (a : α), P a → Q [[c'.d]] [enc a]) : ∃ x, (cDraw g enc P).ins x = ds ∧ ∀ outs res, (cDraw g enc P).post x outs res → Q outs res := by
  refine ⟨c, hd, ?_⟩
  rintro _ _ ⟨c1, a, rfl, rfl, a1⟩
  exact h c1 a a1
theorem ev_l08User : ∀ x, evFnX tab [(125, cBelow)] (cDraw false strE (strP 16)) Try.f209 (body Try.f209) x := by
  intro c
  conv => whnf
  refine useBelow (c := c) (n := 24) rfl (by decide) fun c v a1 a2 _ => ?_
  replace a2 : v < 24 := a2 (by decide)
  conv => whnf
  have h1 : 0 ≤ v.tmod 12 := Int.tmod_nonneg _ a1
  have h2 : v.tmod 12 < 12 := Int.tmod_lt_of_pos _ (by decide)
  refine ⟨h1, h2, ?_⟩
  conv => whnf
  refine exStr 16 ?_ ?_ fun s hs => ?_
  · rfl
  · show (v.tmod 12).toNat < 12; omega
  conv => whnf
  exact ⟨⟨c, s, rfl, rfl, hs⟩⟩
theorem l08User_ok : FnOk Try.prog 209 (cDraw false strE (strP 16)) := fnOk_of fun x => fnX_at tab_ok (SOk.cons l01Below_ok SOk.nil) mixed (fn := Try.f209) (code := body Try.f209) ⟨Try.func209, rfl, by kernel_rfl, by kernel_rfl, by kernel_rfl, by kernel_rfl⟩ (ev_l08User x)
theorem ev_l08Uval : ∀ x, evFnX tab [(125, cBelow)] (cDraw false strE (strP 20)) Try.f210 (body Try.f210) x := by
  intro c
  conv => whnf
  refine useBelow (c := c) (n := 6) rfl (by decide) fun c v a1 a2 _ => ?_
  replace a2 : v < 6 := a2 (by decide)
  conv => whnf
  refine ⟨a1, a2, ?_⟩
  conv => whnf
  refine exStr 20 ?_ ?_ fun s hs => ?_
  · rfl
  · show v.toNat < 6; omega
  conv => whnf
  exact ⟨⟨c, s, rfl, rfl, hs⟩⟩
theorem l08Uval_ok : FnOk Try.prog 210 (cDraw false strE (strP 20)) := fnOk_of fun x => fnX_at tab_ok (SOk.cons l01Below_ok SOk.nil) mixed (fn := Try.f210) (code := body Try.f210) ⟨Try.func210, rfl, by kernel_rfl, by kernel_rfl, by kernel_rfl, by kernel_rfl⟩ (ev_l08Uval x)
theorem ev_l01Raw : ∀ x, evFnX tab [(125, cBelow)] (cDraw false intE intP) Try.f126 (body Try.f126) x := by
  intro c
  conv => whnf
  refine useBelow (c := c) (n := 10) rfl (by decide) fun c k k1 k2 _ => ?_
  have done : ∀ (c : CurX) (v : Int), intP v → ∃ (c' : CurX) (a : Int), [[c.d]] = [[c'.d]] ∧ [[D.lf (.int .i64 v)]] = [intE a] ∧ intP a := fun c v h => ⟨c, v, rfl, rfl, h⟩
  conv => whnf
  refine br2 (fun _ => ?_) (fun _ => ?_)
  · conv => whnf
    refine useBelow (c := c) (n := 20) rfl (by decide) fun c v a1 a2 _ => ?_
    replace a2 : v < 20 := a2 (by decide)
    conv => whnf
    exact ⟨done _ _ ⟨by omega, by omega⟩⟩
  conv => whnf
  refine br2 (fun _ => ?_) (fun _ => ?_)
  · conv => whnf
    refine useBelow (c := c) (n := 3) rfl (by decide) fun c v a1 a2 _ => ?_
    conv => whnf
    exact ⟨done _ _ ⟨wrap_lo _, wrap_hi _⟩⟩
  conv => whnf
  refine br2 (fun _ => ?_) (fun _ => ?_)
  · conv => whnf
    refine useBelow (c := c) (n := 2) rfl (by decide) fun c v a1 a2 _ => ?_
    conv => whnf
    exact ⟨done _ _ ⟨wrap_lo _, wrap_hi _⟩⟩
  conv => whnf
  refine br2 (fun _ => ?_) (fun _ => ?_)
  · conv => whnf
    refine useBelow (c := c) (n := 2) rfl (by decide) fun c v a1 a2 _ => ?_
    conv => whnf
    exact ⟨done _ _ ⟨wrap_lo _, wrap_hi _⟩⟩
  conv => whnf
  refine br2 (fun _ => ?_) (fun _ => ?_)
  · conv => whnf
    refine useBelow (c := c) (n := 2) rfl (by decide) fun c v a1 a2 _ => ?_
    conv => whnf
    exact ⟨done _ _ ⟨wrap_lo _, wrap_hi _⟩⟩
  conv => whnf
  refine br2 (fun _ => ?_) (fun _ => ?_)
  · conv => whnf
    refine useBelow (c := c) (n := 8) rfl (by decide) fun c v a1 a2 _ => ?_
    replace a2 : v < 8 := a2 (by decide)
    conv => whnf
    refine ⟨a1, a2, ?_⟩
    conv => whnf
    refine exInt ?_ ?_ fun s hs1 hs2 => ?_
    · rfl
    · show v.toNat < 8; omega
    conv => whnf
    exact ⟨done _ _ ⟨hs1, hs2⟩⟩
  conv => whnf
  refine useBelow (c := c) (n := 65536) rfl (by decide) fun c v a1 a2 _ => ?_
  conv => whnf
  exact ⟨done _ _ ⟨wrap_lo _, wrap_hi _⟩⟩
theorem l01Raw_ok : FnOk Try.prog 126 (cDraw false intE intP) := fnOk_of fun x => fnX_at tab_ok (SOk.cons l01Below_ok SOk.nil) mixed (fn := Try.f126) (code := body Try.f126) ⟨Try.func126, rfl, by kernel_rfl, by kernel_rfl, by kernel_rfl, by kernel_rfl⟩ (ev_l01Raw x)
theorem ev_l02Key : ∀ x, evFnX tab [(125, cBelow), (78, cNumText)] (cDraw false strE (strP 16)) Try.f181 (body Try.f181) x := by
  intro c
  conv => whnf
  refine useBelow (c := c) (n := 20) rfl (by decide) fun c k k1 k2 _ => ?_
  replace k2 : k < 20 := k2 (by decide)
  conv => whnf
  refine br2 (fun h => ?_) (fun _ => ?_)
  · have h1 : k < 16 := of_decide_eq_true h
    conv => whnf
    refine ⟨k1, h1, ?_⟩
    conv => whnf
    refine exStr 16 ?_ ?_ fun s hs => ?_
    · rfl
    · show k.toNat < 16; omega
    conv => whnf
    exact ⟨⟨c, s, rfl, rfl, hs⟩⟩
  conv => whnf
  refine br2 (fun h => ?_) (fun _ => ?_)
  · conv => whnf
    exact ⟨⟨c, ⟨#[0]⟩, rfl, rfl, (show (1 : Nat) ≤ 16 by decide)⟩⟩
  conv => whnf
  refine br2 (fun h => ?_) (fun _ => ?_)
  · conv => whnf
    exact ⟨⟨c, ⟨#[122,122,122,122,122,122,122,122,122,122,122,122,122,122,122,122]⟩, rfl, rfl, (show (16 : Nat) ≤ 16 by decide)⟩⟩
  conv => whnf
  refine useBelow (c := c) (n := 30) rfl (by decide) fun c v a1 a2 _ => ?_
  replace a2 : v < 30 := a2 (by decide)
  conv => whnf
  refine ⟨⟨v, by omega, by omega⟩, rfl, ?_⟩
  rintro _ _ ⟨rfl, rfl⟩
  have hs := numT_size v
  conv => whnf
  refine ⟨(show 1 + (numT v).size ≤ 4294967296 by omega), ?_⟩
  conv => whnf
  refine ⟨⟨c, ⟨#[107]⟩ ++ numT v, rfl, rfl, ?_⟩⟩
  show (ByteArray.mk #[107] ++ numT v).size ≤ 16
  rw [ByteArray.size_append]
  show 1 + (numT v).size ≤ 16
  omega
theorem l02Key_ok : FnOk Try.prog 181 (cDraw false strE (strP 16)) := fnOk_of fun x => fnX_at tab_ok (SOk.cons l01Below_ok (SOk.cons sNumText_ok SOk.nil)) mixed (fn := Try.f181) (code := body Try.f181) ⟨Try.func181, rfl, by kernel_rfl, by kernel_rfl, by kernel_rfl, by kernel_rfl⟩ (ev_l02Key x)
def rngE (r : RngX) : List D := r.ds
def rngP (k : Nat) (r : RngX) : Prop := r.lo.size ≤ k ∧ r.hi.size ≤ k
theorem ev_sKeyOk : ∀ x, evFnX tab [] cKeyOk Try.f142 (body Try.f142) x := by
  intro k
  repeat' ((conv => whnf); refine br2 (fun h => ?_) (fun h => ?_))
  all_goals (conv => whnf)
  all_goals refine ⟨⟨rfl, ?_⟩⟩
  · show _ = [[D.lf (.bool (keyOkB k))]]
    have h1 := of_decide_eq_true h
    unfold keyOkB
    rw [show decide (1 ≤ k.size) = true from decide_eq_true (by omega), Bool.true_and]
    congr 4
    exact decide_eq_decide.2 (by omega)
  · show _ = [[D.lf (.bool (keyOkB k))]]
    have h1 := of_decide_eq_false h
    unfold keyOkB
    rw [show decide (1 ≤ k.size) = false from decide_eq_false (by omega), Bool.false_and]
theorem sKeyOk_ok : FnOk Try.prog 142 cKeyOk := fnOk_of fun x => fnX_at tab_ok (SOk.nil) mixed (fn := Try.f142) (code := body Try.f142) ⟨Try.func142, rfl, by kernel_rfl, by kernel_rfl, by kernel_rfl, by kernel_rfl⟩ (ev_sKeyOk x)
structure PtX where
  s : ByteArray
  h : s.size ≤ 1000
def cPoint : Con := relC PtX [(.rd, false)] [true] (fun x => [[.lf (.string x.s)]]) (fun x r => ∃ q : RngX, r = [q.ds] ∧ rngP (x.s.size + 1) q)
theorem ev_pointOf : ∀ x, evFnX tab [(142, cKeyOk)] cPoint Try.f217 (body Try.f217) x := by
  rintro ⟨s, h⟩
  conv => whnf
  refine ⟨s, rfl, ?_⟩
  rintro _ _ ⟨rfl, rfl⟩
  conv => whnf
  refine br2 (fun h => ?_) (fun _ => ?_)
  · conv => whnf
    exact ⟨⟨rfl, ⟨⟨#[]⟩, ⟨#[]⟩⟩, rfl, Nat.zero_le _, Nat.zero_le _⟩⟩
  conv => whnf
  refine ⟨(show s.size + 1 ≤ 4294967296 by omega), ?_⟩
  conv => whnf
  refine ⟨⟨rfl, ⟨s, s ++ ⟨#[0]⟩⟩, rfl, Nat.le_succ _, ?_⟩⟩
  show (s ++ ByteArray.mk #[0]).size ≤ s.size + 1
  rw [ByteArray.size_append]; exact Nat.le_refl _
theorem pointOf_ok : FnOk Try.prog 217 cPoint := fnOk_of fun x => fnX_at tab_ok (SOk.cons sKeyOk_ok SOk.nil) mixed (fn := Try.f217) (code := body Try.f217) ⟨Try.func217, rfl, by kernel_rfl, by kernel_rfl, by kernel_rfl, by kernel_rfl⟩ (ev_pointOf x)
theorem ev_l02Range : ∀ x, evFnX tab [(125, cBelow), (181, (cDraw false strE (strP 16))), (217, cPoint)] (cDraw true rngE (rngP 17)) Try.f182 (body Try.f182) x := by
  intro c
  conv => whnf
  refine useDraw (c := c) rfl fun c a ha => ?_
  replace ha : a.size ≤ 16 := ha
  conv => whnf
  refine useDraw (c := c) rfl fun c b hb => ?_
  replace hb : b.size ≤ 16 := hb
  conv => whnf
  refine useBelow (c := c) (n := 6) rfl (by decide) fun c v a1 a2 _ => ?_
  have h0 : (ByteArray.mk #[]).size ≤ 17 := by decide
  repeat' ((conv => whnf); first
    | refine br2 (fun _ => ?_) (fun _ => ?_)
    | exact ⟨⟨c, ⟨_, _⟩, rfl, rfl, h0, h0⟩⟩
    | exact ⟨⟨c, ⟨a, _⟩, rfl, rfl, Nat.le_succ_of_le ha, h0⟩⟩
    | exact ⟨⟨c, ⟨a, b⟩, rfl, rfl, Nat.le_succ_of_le ha, Nat.le_succ_of_le hb⟩⟩
    | exact ⟨⟨c, ⟨b, a⟩, rfl, rfl, Nat.le_succ_of_le hb, Nat.le_succ_of_le ha⟩⟩
    | (refine ⟨⟨a, by omega⟩, rfl, ?_⟩; rintro _ _ ⟨rfl, q, rfl, hq1, hq2⟩; (conv => whnf); exact ⟨⟨c, q, rfl, rfl, Nat.le_trans hq1 (Nat.succ_le_succ ha), Nat.le_trans hq2 (Nat.succ_le_succ ha)⟩⟩))
theorem l02Range_ok : FnOk Try.prog 182 (cDraw true rngE (rngP 17)) := fnOk_of fun x => fnX_at tab_ok (SOk.cons l01Below_ok (SOk.cons l02Key_ok (SOk.cons pointOf_ok SOk.nil))) mixed (fn := Try.f182) (code := body Try.f182) ⟨Try.func182, rfl, by kernel_rfl, by kernel_rfl, by kernel_rfl, by kernel_rfl⟩ (ev_l02Range x)
theorem ev_l08Reach : ∀ x, evFnX tab [(125, cBelow), (209, (cDraw false strE (strP 16))), (217, cPoint)] (cDraw true rngE (rngP 17)) Try.f229 (body Try.f229) x := by
  intro c
  conv => whnf
  refine useDraw (c := c) rfl fun c a ha => ?_
  replace ha : a.size ≤ 16 := ha
  conv => whnf
  refine useDraw (c := c) rfl fun c b hb => ?_
  replace hb : b.size ≤ 16 := hb
  have h0 : (ByteArray.mk #[]).size ≤ 17 := by decide
  conv => whnf
  refine br2 (fun _ => ?_) (fun _ => ?_)
  · conv => whnf
    refine ⟨⟨a, by omega⟩, rfl, ?_⟩
    rintro _ _ ⟨rfl, q, rfl, hq1, hq2⟩
    conv => whnf
    exact ⟨⟨c, q, rfl, rfl, Nat.le_trans hq1 (Nat.succ_le_succ ha), Nat.le_trans hq2 (Nat.succ_le_succ ha)⟩⟩
  conv => whnf
  refine useBelow (c := c) (n := 4) rfl (by decide) fun c v a1 a2 _ => ?_
  conv => whnf
  refine br2 (fun _ => ?_) (fun _ => ?_)
  · conv => whnf
    exact ⟨⟨c, ⟨a, _⟩, rfl, rfl, Nat.le_succ_of_le ha, h0⟩⟩
  conv => whnf
  exact ⟨⟨c, ⟨a, b⟩, rfl, rfl, Nat.le_succ_of_le ha, Nat.le_succ_of_le hb⟩⟩
theorem l08Reach_ok : FnOk Try.prog 229 (cDraw true rngE (rngP 17)) := fnOk_of fun x => fnX_at tab_ok (SOk.cons l01Below_ok (SOk.cons l08User_ok (SOk.cons pointOf_ok SOk.nil))) mixed (fn := Try.f229) (code := body Try.f229) ⟨Try.func229, rfl, by kernel_rfl, by kernel_rfl, by kernel_rfl, by kernel_rfl⟩ (ev_l08Reach x)
theorem ev_l02AnyRange : ∀ x, evFnX tab [(125, cBelow), (182, (cDraw true rngE (rngP 17)))] (cDraw true rngE (rngP 20)) Try.f124 (body Try.f124) x := by
  intro c
  conv => whnf
  refine useDraw (c := c) rfl fun c q hq => ?_
  obtain ⟨lo, hi⟩ := q
  obtain ⟨q1, q2⟩ : lo.size ≤ 17 ∧ hi.size ≤ 17 := hq
  have u1 : lo.size ≤ 20 := by omega
  have u2 : hi.size ≤ 20 := by omega
  conv => whnf
  refine useBelow (c := c) (n := 14) rfl (by decide) fun c k k1 k2 k3 => ?_
  clear k1 k2 k3
  have fin : ∀ (c : CurX) (lo hi : ByteArray), lo.size ≤ 20 → hi.size ≤ 20 → ∃ (c' : CurX) (a : RngX), [[c.d]] = [[c'.d]] ∧ [[D.lf (.string lo), D.lf (.string hi)]] = [rngE a] ∧ rngP 20 a := fun c lo hi h1 h2 => ⟨c, ⟨lo, hi⟩, rfl, rfl, h1, h2⟩
  have g1 : (k == 0) = true → k = 0 := fun h => eq_of_beq h
  have g2 : (k == 1) = true → k = 1 := fun h => eq_of_beq h
  have g3 : (k == 2) = true → k = 2 := fun h => eq_of_beq h
  have g4 : (k == 3) = true → k = 3 := fun h => eq_of_beq h
  have one : ∀ (c : CurX) (v : Int), 0 ≤ v → v < 2 → 0 ≤ IntKind.i64.wrap (17 + v) ∧ IntKind.i64.wrap (17 + v) ≤ 18 := fun c v h1 h2 => by rw [w64 (by omega) (by omega)]; omega
  conv => whnf
  refine br2 (fun h0 => ?_) (fun h0 => ?_)
  · obtain rfl := g1 h0
    conv => whnf
    exact ⟨fin _ _ _ (by first | exact u1 | exact u2) (by first | exact u1 | exact u2)⟩
  conv => whnf
  refine br2 (fun h0 => ?_) (fun h0 => ?_)
  · obtain rfl := g2 h0
    conv => whnf
    refine useBelow (c := c) (n := 2) rfl (by decide) fun c v a1 a2 _ => ?_
    replace a2 : v < 2 := a2 (by decide)
    obtain ⟨o1, o2⟩ := one c v a1 a2
    conv => whnf
    refine ⟨o1, rfl, Int.le_trans o2 (by decide), ?_⟩
    conv => whnf
    refine ⟨UInt8, encB, 0, fun _ => rfl, rfl, ?_⟩
    conv => whnf
    refine ⟨List.replicate (IntKind.i64.wrap (17 + v)).toNat 0, rfl, ?_⟩
    conv => whnf
    refine ⟨fin _ _ _ ?_ u2⟩
    show (List.replicate (IntKind.i64.wrap (17 + v)).toNat (0 : UInt8)).toArray.size ≤ 20
    simp; omega
  conv => whnf
  refine br2 (fun h0 => ?_) (fun h0 => ?_)
  · obtain rfl := g3 h0
    conv => whnf
    refine useBelow (c := c) (n := 2) rfl (by decide) fun c v a1 a2 _ => ?_
    replace a2 : v < 2 := a2 (by decide)
    conv => whnf
    refine ⟨a1, a2, ?_⟩
    conv => whnf
    refine exStr 1 ?_ ?_ fun s hs => ?_
    · rfl
    · show v.toNat < 2; omega
    conv => whnf
    refine ⟨(show 17 + s.size ≤ 4294967296 by omega), ?_⟩
    conv => whnf
    refine ⟨fin _ _ _ u1 ?_⟩
    rw [ByteArray.size_append]
    show 17 + s.size ≤ 20
    omega
  conv => whnf
  refine br2 (fun h0 => ?_) (fun h0 => ?_)
  · conv => whnf
    exact ⟨fin _ _ _ (by first | exact u1 | exact u2) (by first | exact u1 | exact u2)⟩
  conv => whnf
  exact ⟨fin _ _ _ (by first | exact u1 | exact u2) (by first | exact u1 | exact u2)⟩
theorem l02AnyRange_ok : FnOk Try.prog 124 (cDraw true rngE (rngP 20)) := fnOk_of fun x => fnX_at tab_ok (SOk.cons l01Below_ok (SOk.cons l02Range_ok SOk.nil)) mixed (fn := Try.f124) (code := body Try.f124) ⟨Try.func124, rfl, by kernel_rfl, by kernel_rfl, by kernel_rfl, by kernel_rfl⟩ (ev_l02AnyRange x)
end Go.Vm
namespace Go.Vm
open Go.Proofs
set_option maxRecDepth 100000
set_option linter.unusedVariables false
set_option linter.unusedSimpArgs false

def txOkB (x : TxX) : Bool := decide (0 ≤ x.c) && decide (x.c ≤ 7) && decide (1 ≤ x.e) && decide (x.e ≤ 999) && decide (1 ≤ x.n) && decide (x.n ≤ 999)
def cTxOk : Con := pureC TxX [(.rd, true)] [false] (fun x => [x.ds]) (fun x => [[.lf (.bool (txOkB x))]])
theorem ev_sTxOk : ∀ x, evFnX tab [] cTxOk Try.f109 (body Try.f109) x := by
  rintro ⟨c, e, n⟩
  repeat' ((conv => whnf); refine br2 (fun h => ?_) (fun h => ?_))
  all_goals (conv => whnf)
  all_goals refine ⟨⟨rfl, ?_⟩⟩
  all_goals show _ = [[D.lf (.bool (txOkB ⟨c, e, n⟩))]]
  all_goals simp_all [txOkB]
  all_goals omega
theorem sTxOk_ok : FnOk Try.prog 109 cTxOk := fnOk_of fun x => fnX_at tab_ok (SOk.nil) mixed (fn := Try.f109) (code := body Try.f109) ⟨Try.func109, rfl, by kernel_rfl, by kernel_rfl, by kernel_rfl, by kernel_rfl⟩ (ev_sTxOk x)
theorem ev_iTxOk : ∀ x, evFnX tab [(164, cWithin)] cTxOk Try.f158 (body Try.f158) x := by
  rintro ⟨c, e, n⟩
  conv => whnf
  refine ⟨⟨c, 0, 7⟩, rfl, ?_⟩
  rintro _ _ ⟨rfl, rfl⟩
  conv => whnf
  refine br2 (fun h1 => ?_) (fun h1 => ?_)
  · conv => whnf
    refine ⟨⟨e, 1, 999⟩, rfl, ?_⟩
    rintro _ _ ⟨rfl, rfl⟩
    conv => whnf
    refine br2 (fun h2 => ?_) (fun h2 => ?_)
    · conv => whnf
      refine ⟨⟨n, 1, 999⟩, rfl, ?_⟩
      rintro _ _ ⟨rfl, rfl⟩
      conv => whnf
      refine ⟨⟨rfl, ?_⟩⟩
      show [[D.lf (.bool (decide (1 ≤ n) && decide (n ≤ 999)))]] = [[D.lf (.bool (txOkB ⟨c, e, n⟩))]]
      replace h1 : (decide (0 ≤ c) && decide (c ≤ 7)) = true := h1
      replace h2 : (decide (1 ≤ e) && decide (e ≤ 999)) = true := h2
      simp_all [txOkB]
    · conv => whnf
      refine ⟨⟨rfl, ?_⟩⟩
      show _ = [[D.lf (.bool (txOkB ⟨c, e, n⟩))]]
      replace h2 : (decide (1 ≤ e) && decide (e ≤ 999)) = false := h2
      simp [txOkB, Bool.and_assoc] at h2 ⊢
      intros; omega
  · conv => whnf
    refine ⟨⟨rfl, ?_⟩⟩
    show _ = [[D.lf (.bool (txOkB ⟨c, e, n⟩))]]
    replace h1 : (decide (0 ≤ c) && decide (c ≤ 7)) = false := h1
    simp [txOkB, Bool.and_assoc] at h1 ⊢
    intros; omega
theorem iTxOk_ok : FnOk Try.prog 158 cTxOk := fnOk_of fun x => fnX_at tab_ok (SOk.cons within_ok SOk.nil) mixed (fn := Try.f158) (code := body Try.f158) ⟨Try.func158, rfl, by kernel_rfl, by kernel_rfl, by kernel_rfl, by kernel_rfl⟩ (ev_iTxOk x)

/-! What two ranges have in common -/
def bothLo (a b : RngX) : ByteArray := if strLt a.lo b.lo then b.lo else a.lo
def bothHi (a b : RngX) : ByteArray := if emp a.hi || (!emp b.hi && strLt b.hi a.hi) then b.hi else a.hi
def bothB (a b : RngX) : Bool := rangeOkB a.lo a.hi && rangeOkB b.lo b.hi && rangeOkB (bothLo a b) (bothHi a b)
def bothR (a b : RngX) : RngX := if bothB a b then ⟨bothLo a b, bothHi a b⟩ else rng0
def cBoth : Con := pureC (RngX × RngX) [(.rd, true), (.rd, true)] [true, false] (fun x => [x.1.ds, x.2.ds]) (fun x => [(bothR x.1 x.2).ds, [.lf (.bool (bothB x.1 x.2))]])
theorem nt_t {b : Bool} (h : (!b) = true) : b = false := by cases b <;> simp_all
theorem nt_f {b : Bool} (h : (!b) = false) : b = true := by cases b <;> simp_all
theorem any_at {α : Type} {p : α → Bool} {l : List α} {i : Nat} {y : α} (hy : l[i]? = some y) (h : p y = true) : l.any p = true := List.any_eq_true.2 ⟨y, List.mem_of_getElem? hy, h⟩
theorem any_no {α : Type} {p : α → Bool} {l : List α} (h : ∀ j y, j < l.length → l[j]? = some y → p y = false) : l.any p = false := by
  rw [List.any_eq_false]
  intro y hy
  obtain ⟨j, hj⟩ := List.getElem?_of_mem hy
  rw [h j y (List.getElem?_eq_some_iff.1 hj).1 hj]; simp
end Go.Vm
namespace Go.Vm
open Go.Proofs
set_option maxRecDepth 100000
set_option linter.unusedVariables false
set_option linter.unusedSimpArgs false

def txE (x : TxX) : List D := x.ds
def txP (x : TxX) : Prop := intP x.c ∧ intP x.e ∧ intP x.n
theorem ev_l07Tx : ∀ x, evFnX tab [(125, cBelow)] (cDraw true txE txP) Try.f207 (body Try.f207) x := by
  intro c
  conv => whnf
  refine useBelow (c := c) (n := 3) rfl (by decide) fun c v a1 a2 _ => ?_
  replace a2 : v < 3 := a2 (by decide)
  conv => whnf
  refine useBelow (c := c) (n := 2) rfl (by decide) fun c v' b1 b2 _ => ?_
  conv => whnf
  refine useBelow (c := c) (n := 3) rfl (by decide) fun c v'' c1 c2 _ => ?_
  conv => whnf
  have e0 : intP v := ⟨by omega, by omega⟩
  exact ⟨⟨c, ⟨v, _, _⟩, rfl, rfl, e0, ⟨wrap_lo _, wrap_hi _⟩, ⟨wrap_lo _, wrap_hi _⟩⟩⟩
theorem l07Tx_ok : FnOk Try.prog 207 (cDraw true txE txP) := fnOk_of fun x => fnX_at tab_ok (SOk.cons l01Below_ok SOk.nil) mixed (fn := Try.f207) (code := body Try.f207) ⟨Try.func207, rfl, by kernel_rfl, by kernel_rfl, by kernel_rfl, by kernel_rfl⟩ (ev_l07Tx x)
theorem ev_l07AnyTx : ∀ x, evFnX tab [(125, cBelow), (207, (cDraw true txE txP)), (126, (cDraw false intE intP))] (cDraw true txE txP) Try.f172 (body Try.f172) x := by
  intro c
  conv => whnf
  refine useDraw (c := c) rfl fun c t ht => ?_
  obtain ⟨t1, t2, t3⟩ := t
  obtain ⟨p1, p2, p3⟩ : intP t1 ∧ intP t2 ∧ intP t3 := ht
  conv => whnf
  refine useBelow (c := c) (n := 12) rfl (by decide) fun c k k1 k2 k3 => ?_
  clear k1 k2 k3
  have fin : ∀ (c : CurX) (a b d : Int), intP a → intP b → intP d → ∃ (c' : CurX) (r : TxX), [[c.d]] = [[c'.d]] ∧ [[D.lf (.int .i64 a), D.lf (.int .i64 b), D.lf (.int .i64 d)]] = [txE r] ∧ txP r := fun c a b d h1 h2 h3 => ⟨c, ⟨a, b, d⟩, rfl, rfl, h1, h2, h3⟩
  have g1 : (k == 0) = true → k = 0 := fun h => eq_of_beq h
  have g2 : (k == 1) = true → k = 1 := fun h => eq_of_beq h
  have g3 : (k == 2) = true → k = 2 := fun h => eq_of_beq h
  have ints : ∀ (a b d q : Int), intP a → intP b → intP d → intP q → intEls [[.lf (.int .i64 a)], [.lf (.int .i64 b)], [.lf (.int .i64 d)], [.lf (.int .i64 q)]] = true := by
    rintro a b d q ⟨h1, h2⟩ ⟨h3, h4⟩ ⟨h5, h6⟩ ⟨h7, h8⟩
    simp [intEls, h1, h2, h3, h4, h5, h6, h7, h8]
  have lit : ∀ n : Int, -2000 ≤ n → n ≤ 2000 → intP n := fun n h1 h2 => ⟨by omega, by omega⟩
  conv => whnf
  refine br2 (fun h0 => ?_) (fun h0 => ?_)
  · obtain rfl := g1 h0
    conv => whnf
    refine useDraw (c := c) rfl fun c a ha => ?_
    conv => whnf
    refine useBelow (c := c) (n := 4) rfl (by decide) fun c v a1 a2 _ => ?_
    replace a2 : v < 4 := a2 (by decide)
    conv => whnf
    refine ⟨a1, a2, ?_⟩
    conv => whnf
    refine exInt ?_ ?_ fun s h1 h2 => ?_
    · exact ints 7 8 (-1) a (lit _ (by decide) (by decide)) (lit _ (by decide) (by decide)) (lit _ (by decide) (by decide)) ha
    · show v.toNat < 4; omega
    conv => whnf
    exact ⟨fin _ _ _ _ ⟨h1, h2⟩ p2 p3⟩
  conv => whnf
  refine br2 (fun h0 => ?_) (fun h0 => ?_)
  · obtain rfl := g2 h0
    conv => whnf
    refine useDraw (c := c) rfl fun c a ha => ?_
    conv => whnf
    refine useBelow (c := c) (n := 4) rfl (by decide) fun c v a1 a2 _ => ?_
    replace a2 : v < 4 := a2 (by decide)
    conv => whnf
    refine ⟨a1, a2, ?_⟩
    conv => whnf
    refine exInt ?_ ?_ fun s h1 h2 => ?_
    · exact ints 0 999 1000 a (lit _ (by decide) (by decide)) (lit _ (by decide) (by decide)) (lit _ (by decide) (by decide)) ha
    · show v.toNat < 4; omega
    conv => whnf
    exact ⟨fin _ _ _ _ p1 ⟨h1, h2⟩ p3⟩
  conv => whnf
  refine br2 (fun h0 => ?_) (fun h0 => ?_)
  · conv => whnf
    refine useDraw (c := c) rfl fun c a ha => ?_
    conv => whnf
    refine useBelow (c := c) (n := 4) rfl (by decide) fun c v a1 a2 _ => ?_
    replace a2 : v < 4 := a2 (by decide)
    conv => whnf
    refine ⟨a1, a2, ?_⟩
    conv => whnf
    refine exInt ?_ ?_ fun s h1 h2 => ?_
    · exact ints 0 999 1000 a (lit _ (by decide) (by decide)) (lit _ (by decide) (by decide)) (lit _ (by decide) (by decide)) ha
    · show v.toNat < 4; omega
    conv => whnf
    exact ⟨fin _ _ _ _ p1 p2 ⟨h1, h2⟩⟩
  conv => whnf
  exact ⟨fin _ _ _ _ p1 p2 p3⟩
theorem l07AnyTx_ok : FnOk Try.prog 172 (cDraw true txE txP) := fnOk_of fun x => fnX_at tab_ok (SOk.cons l01Below_ok (SOk.cons l07Tx_ok (SOk.cons l01Raw_ok SOk.nil))) mixed (fn := Try.f172) (code := body Try.f172) ⟨Try.func172, rfl, by kernel_rfl, by kernel_rfl, by kernel_rfl, by kernel_rfl⟩ (ev_l07AnyTx x)
end Go.Vm
namespace Go.Vm
open Go.Proofs
set_option maxRecDepth 100000
set_option linter.unusedVariables false
set_option linter.unusedSimpArgs false

structure AskX where
  k : Int
  u : ByteArray
  v : ByteArray
  r : RngX
  n : Int
  b : Bool
def AskX.ds (x : AskX) : List D := [.lf (.int .i64 x.k), .lf (.string x.u), .lf (.string x.v), .lf (.string x.r.lo), .lf (.string x.r.hi), .lf (.int .i64 x.n), .lf (.bool x.b)]
def askB0 (x : AskX) : Prop := x.u.size ≤ 9223372036854775807 ∧ x.v.size ≤ 9223372036854775807 ∧ rngB0 x.r
def askOkB (x : AskX) : Bool :=
  if x.k = 4 then emp x.u && emp x.v && reachOkB x.r.lo x.r.hi && decide (1 ≤ x.n) && decide (x.n ≤ 8)
  else if x.k = 1 ∨ x.k = 3 then userOkB x.u && emp x.v && emp x.r.lo && emp x.r.hi && x.n == 0 && !x.b
  else if x.k = 2 then userOkB x.u && uvalOkB x.v && emp x.r.lo && emp x.r.hi && x.n == 0 && !x.b
  else false
theorem uval_emp : uvalOkB ⟨#[]⟩ = true := rfl
theorem ev_szAsk : ∀ x, evFnX tab [(40, (cSz RngX.ds rngB0 rngB))] (cSz AskX.ds askB0 (fun _ => True)) Try.f91 (body Try.f91) x := by
  rintro ⟨⟨k, u, v, r, n, b⟩, left, h1, h2, hb1, hb2, hb3⟩
  replace hb1 : u.size ≤ 9223372036854775807 := hb1
  replace hb2 : v.size ≤ 9223372036854775807 := hb2
  conv => whnf
  have e1 : IntKind.i64.wrap (left - (u.size : Int)) = left - u.size := w64 (by omega) (by omega)
  refine br2 (fun h3 => ?_) (fun h3 => ?_)
  · conv => whnf
    exact ⟨⟨rfl, -1, rfl, by omega, (show (-1 : Int) ≤ left by omega), fun h => by omega⟩⟩
  · replace h3 : decide (IntKind.i64.wrap (left - (u.size : Int)) < 0) = false := h3
    rw [e1] at h3
    have h3' := of_decide_eq_false h3
    conv => whnf
    have e2 : IntKind.i64.wrap (IntKind.i64.wrap (left - (u.size : Int)) - (v.size : Int)) = left - u.size - v.size := by rw [e1]; exact w64 (by omega) (by omega)
    refine br2 (fun h4 => ?_) (fun h4 => ?_)
    · conv => whnf
      exact ⟨⟨rfl, -1, rfl, by omega, (show (-1 : Int) ≤ left by omega), fun h => by omega⟩⟩
    · replace h4 : decide (IntKind.i64.wrap (IntKind.i64.wrap (left - (u.size : Int)) - (v.size : Int)) < 0) = false := h4
      rw [e2] at h4
      have h4' := of_decide_eq_false h4
      conv => whnf
      refine ⟨⟨r, IntKind.i64.wrap (IntKind.i64.wrap (left - (u.size : Int)) - (v.size : Int)), by rw [e2]; omega, by rw [e2]; omega, hb3⟩, rfl, ?_⟩
      rintro _ _ ⟨rfl, k, rfl, k1, k2, k3⟩
      replace k2 : k ≤ IntKind.i64.wrap (IntKind.i64.wrap (left - (u.size : Int)) - (v.size : Int)) := k2
      rw [e2] at k2
      conv => whnf
      refine br2 (fun h5 => ?_) (fun h5 => ?_)
      · conv => whnf
        exact ⟨⟨rfl, -1, rfl, by omega, (show (-1 : Int) ≤ left by omega), fun h => by omega⟩⟩
      · conv => whnf
        exact ⟨⟨rfl, k, rfl, k1, (show k ≤ left by omega), fun _ => trivial⟩⟩
theorem szAsk_ok : FnOk Try.prog 91 (cSz AskX.ds askB0 (fun _ => True)) := fnOk_of fun x => fnX_at tab_ok (SOk.cons szRange_ok SOk.nil) mixed (fn := Try.f91) (code := body Try.f91) ⟨Try.func91, rfl, by kernel_rfl, by kernel_rfl, by kernel_rfl, by kernel_rfl⟩ (ev_szAsk x)
theorem ev_toAsk : ∀ x, evFnX tab [(43, (cCopy RngX.ds))] (cCopy AskX.ds) Try.f95 (body Try.f95) x := by
  intro x
  conv => whnf
  refine ⟨x.r, rfl, ?_⟩
  rintro _ _ ⟨rfl, rfl⟩
  conv => whnf
  exact ⟨⟨rfl, rfl⟩⟩
theorem toAsk_ok : FnOk Try.prog 95 (cCopy AskX.ds) := fnOk_of fun x => fnX_at tab_ok (SOk.cons toRange_ok SOk.nil) mixed (fn := Try.f95) (code := body Try.f95) ⟨Try.func95, rfl, by kernel_rfl, by kernel_rfl, by kernel_rfl, by kernel_rfl⟩ (ev_toAsk x)
theorem ev_eqAsk : ∀ x, evFnX tab [(168, cEqRange)] (cEq AskX.ds) Try.f100 (body Try.f100) x := by
  rintro ⟨⟨k, u, v, ⟨a, b⟩, n, t⟩, ⟨k', u', v', ⟨a', b'⟩, n', t'⟩⟩
  repeat' ((conv => whnf); first | refine br2 (fun h => ?_) (fun h => ?_) | (refine ⟨⟨a, b, a', b'⟩, rfl, ?_⟩; rintro _ _ ⟨rfl, rfl⟩))
  all_goals (conv => whnf)
  all_goals refine ⟨⟨rfl, ?_⟩⟩
  all_goals show _ = [[D.lf (.bool (eqX (⟨k, u, v, ⟨a, b⟩, n, t⟩ : AskX) ⟨k', u', v', ⟨a', b'⟩, n', t'⟩))]]
  all_goals congr 4
  all_goals rw [eq_comm]
  all_goals simp_all [eqX_iff, eqX_no, strEq_iff, strEq_no]
  exact fun e1 e2 => h.elim (fun h => absurd e1 h) (fun h => absurd e2 h)
theorem eqAsk_ok : FnOk Try.prog 100 (cEq AskX.ds) := fnOk_of fun x => fnX_at tab_ok (SOk.cons eqRange_ok SOk.nil) mixed (fn := Try.f100) (code := body Try.f100) ⟨Try.func100, rfl, by kernel_rfl, by kernel_rfl, by kernel_rfl, by kernel_rfl⟩ (ev_eqAsk x)
theorem askOk_iff {k n : Int} {u v a b : ByteArray} {t : Bool} : askOkB ⟨k, u, v, ⟨a, b⟩, n, t⟩ = true ↔ (k = 4 ∧ u = ⟨#[]⟩ ∧ v = ⟨#[]⟩ ∧ reachOkB a b = true ∧ 1 ≤ n ∧ n ≤ 8) ∨
    ((k = 1 ∨ k = 3) ∧ userOkB u = true ∧ v = ⟨#[]⟩ ∧ a = ⟨#[]⟩ ∧ b = ⟨#[]⟩ ∧ n = 0 ∧ t = false) ∨ (k = 2 ∧ userOkB u = true ∧ uvalOkB v = true ∧ a = ⟨#[]⟩ ∧ b = ⟨#[]⟩ ∧ n = 0 ∧ t = false) := by
  unfold askOkB
  by_cases h4 : k = 4
  · subst h4; simp [emp_iff, and_assoc]
  · by_cases h1 : k = 1 ∨ k = 3
    · have : k ≠ 2 := by omega
      simp [h4, h1, this, emp_iff, and_assoc]
    · by_cases h2 : k = 2
      · subst h2; simp [emp_iff, and_assoc]
      · simp [h4, h1, h2]
def cAskOk : Con := pureC AskX [(.rd, true)] [false] (fun x => [x.ds]) (fun x => [[.lf (.bool (askOkB x))]])
theorem ev_sAskOk : ∀ x, evFnX tab [(174, cReachOk), (112, cUserOk), (113, cUvalOk)] cAskOk Try.f111 (body Try.f111) x := by
  rintro ⟨k, u, v, ⟨a, b⟩, n, t⟩
  repeat' ((conv => whnf); first | refine br2 (fun h => ?_) (fun h => ?_) | (refine ⟨(a, b), rfl, ?_⟩; rintro _ _ ⟨rfl, rfl⟩) | (refine ⟨u, rfl, ?_⟩; rintro _ _ ⟨rfl, rfl⟩) | (refine ⟨v, rfl, ?_⟩; rintro _ _ ⟨rfl, rfl⟩))
  all_goals (conv => whnf)
  all_goals refine ⟨⟨rfl, ?_⟩⟩
  all_goals show _ = [[D.lf (.bool (askOkB ⟨k, u, v, ⟨a, b⟩, n, t⟩))]]
  all_goals congr 4
  all_goals rw [b_iff, askOk_iff]
  all_goals simp_all [strEq_iff, strEq_no, uval_emp]
  all_goals try omega
theorem sAskOk_ok : FnOk Try.prog 111 cAskOk := fnOk_of fun x => fnX_at tab_ok (SOk.cons sReachOk_ok (SOk.cons sUserOk_ok (SOk.cons sUvalOk_ok SOk.nil))) mixed (fn := Try.f111) (code := body Try.f111) ⟨Try.func111, rfl, by kernel_rfl, by kernel_rfl, by kernel_rfl, by kernel_rfl⟩ (ev_sAskOk x)
theorem ev_iAskOk : ∀ x, evFnX tab [(202, cReachOk), (200, cUserOk), (201, cUvalOk), (164, cWithin)] cAskOk Try.f165 (body Try.f165) x := by
  rintro ⟨k, u, v, ⟨a, b⟩, n, t⟩
  repeat' ((conv => whnf); first | refine br2 (fun h => ?_) (fun h => ?_) | (refine ⟨(a, b), rfl, ?_⟩; rintro _ _ ⟨rfl, rfl⟩) | (refine ⟨u, rfl, ?_⟩; rintro _ _ ⟨rfl, rfl⟩) | (refine ⟨v, rfl, ?_⟩; rintro _ _ ⟨rfl, rfl⟩) | (refine ⟨⟨n, 1, 8⟩, rfl, ?_⟩; rintro _ _ ⟨rfl, rfl⟩))
  all_goals (conv => whnf)
  all_goals refine ⟨⟨rfl, ?_⟩⟩
  all_goals show _ = [[D.lf (.bool (askOkB ⟨k, u, v, ⟨a, b⟩, n, t⟩))]]
  all_goals congr 4
  all_goals rw [b_iff, askOk_iff]
  all_goals simp_all [strEq_iff, strEq_no, uval_emp]
  all_goals try omega
  all_goals trace_state
  all_goals sorry
theorem iAskOk_ok : FnOk Try.prog 165 cAskOk := fnOk_of fun x => fnX_at tab_ok (SOk.cons iReachOk_ok (SOk.cons iUserOk_ok (SOk.cons iUvalOk_ok (SOk.cons within_ok SOk.nil)))) mixed (fn := Try.f165) (code := body Try.f165) ⟨Try.func165, rfl, by kernel_rfl, by kernel_rfl, by kernel_rfl, by kernel_rfl⟩ (ev_iAskOk x)
end Go.Vm
namespace Go.Vm
open Go.Proofs
set_option maxRecDepth 100000
set_option linter.unusedVariables false
set_option linter.unusedSimpArgs false

structure MsgX where
  k : Int
  tx : TxX
  sh : Int
  num : Int
  st : Int
  ask : AskX
  code : Int
  ps : List RngX
  yes : Bool
def MsgX.ds (x : MsgX) : List D := [.lf (.int .i64 x.k), .lf (.int .i64 x.tx.c), .lf (.int .i64 x.tx.e), .lf (.int .i64 x.tx.n), .lf (.int .i64 x.sh), .lf (.int .i64 x.num), .lf (.int .i64 x.st),
  .lf (.int .i64 x.ask.k), .lf (.string x.ask.u), .lf (.string x.ask.v), .lf (.string x.ask.r.lo), .lf (.string x.ask.r.hi), .lf (.int .i64 x.ask.n), .lf (.bool x.ask.b),
  .lf (.int .i64 x.code), .row 2 RngX.ds x.ps, .lf (.bool x.yes)]
def msgB0 (x : MsgX) : Prop := askB0 x.ask ∧ (x.ps.length ≤ 9223372036854775807 ∧ ∀ y ∈ x.ps, rngB0 y)
def msgB (x : MsgX) : Prop := x.ps.length ≤ 1048576 ∧ ∀ y ∈ x.ps, rngB y
theorem ev_szMsg : ∀ x, evFnX tab [(91, (cSz AskX.ds askB0 (fun _ => True))), (66, (cSzS 2 RngX.ds rngB0 rngB))] (cSz MsgX.ds msgB0 msgB) Try.f24 (body Try.f24) x := by
  rintro ⟨x, left, h1, h2, hb1, hb2⟩
  conv => whnf
  refine ⟨⟨x.ask, left, h1, h2, hb1⟩, rfl, ?_⟩
  rintro _ _ ⟨rfl, k, rfl, k1, k2, k3⟩
  replace k2 : k ≤ left := k2
  conv => whnf
  refine br2 (fun h3 => ?_) (fun h3 => ?_)
  · conv => whnf
    exact ⟨⟨rfl, -1, rfl, by omega, (show (-1 : Int) ≤ left by omega), fun h => by omega⟩⟩
  have h3' := of_decide_eq_false h3
  conv => whnf
  refine ⟨⟨x.ps, k, by omega, by omega, hb2⟩, rfl, ?_⟩
  rintro _ _ ⟨rfl, j, rfl, j1, j2, j3⟩
  replace j2 : j ≤ k := j2
  conv => whnf
  refine br2 (fun h4 => ?_) (fun h4 => ?_)
  · conv => whnf
    exact ⟨⟨rfl, -1, rfl, by omega, (show (-1 : Int) ≤ left by omega), fun h => by omega⟩⟩
  have h4' := of_decide_eq_false h4
  obtain ⟨j4, j5⟩ := j3 (by omega)
  replace j4 : (x.ps.length : Int) + j ≤ k := j4
  conv => whnf
  exact ⟨⟨rfl, j, rfl, by omega, (show j ≤ left by omega), fun _ => (⟨by omega, j5⟩ : x.ps.length ≤ 1048576 ∧ ∀ y ∈ x.ps, rngB y)⟩⟩
theorem szMsg_ok : FnOk Try.prog 24 (cSz MsgX.ds msgB0 msgB) := fnOk_of fun x => fnX_at tab_ok (SOk.cons szAsk_ok (SOk.cons szPairS_ok SOk.nil)) mixed (fn := Try.f24) (code := body Try.f24) ⟨Try.func24, rfl, by kernel_rfl, by kernel_rfl, by kernel_rfl, by kernel_rfl⟩ (ev_szMsg x)
structure MsgY where
  x : MsgX
  h : x.ps.length ≤ 1048576
theorem ev_toMsg : ∀ x, evFnX tab [(80, (cCopy TxX.ds)), (95, (cCopy AskX.ds)), (68, (cCopyS 2 RngX.ds))] (pureC MsgY [(.rd, true)] [true] (fun x => [x.x.ds]) (fun x => [x.x.ds])) Try.f26 (body Try.f26) x := by
  rintro ⟨x, h⟩
  conv => whnf
  refine ⟨x.tx, rfl, ?_⟩
  rintro _ _ ⟨rfl, rfl⟩
  conv => whnf
  refine ⟨x.ask, rfl, ?_⟩
  rintro _ _ ⟨rfl, rfl⟩
  conv => whnf
  refine ⟨⟨x.ps, h⟩, rfl, ?_⟩
  rintro _ _ ⟨rfl, rfl⟩
  conv => whnf
  exact ⟨⟨rfl, rfl⟩⟩
theorem toMsg_ok : FnOk Try.prog 26 (pureC MsgY [(.rd, true)] [true] (fun x => [x.x.ds]) (fun x => [x.x.ds])) := fnOk_of fun x => fnX_at tab_ok (SOk.cons toTx_ok (SOk.cons toAsk_ok (SOk.cons toPairS_ok SOk.nil))) mixed (fn := Try.f26) (code := body Try.f26) ⟨Try.func26, rfl, by kernel_rfl, by kernel_rfl, by kernel_rfl, by kernel_rfl⟩ (ev_toMsg x)
theorem ev_eqMsg : ∀ x, evFnX tab [(87, (cEq TxX.ds)), (100, (cEq AskX.ds)), (45, (cEqS 2 RngX.ds))] (cEq MsgX.ds) Try.f29 (body Try.f29) x := by
  rintro ⟨⟨k, x, s, m, st, a, c, p, t⟩, ⟨k', x', s', m', st', a', c', p', t'⟩⟩
  repeat' ((conv => whnf); first | refine br2 (fun h => ?_) (fun h => ?_) | (refine ⟨(x, x'), rfl, ?_⟩; rintro _ _ ⟨rfl, rfl⟩) | (refine ⟨(a, a'), rfl, ?_⟩; rintro _ _ ⟨rfl, rfl⟩) | (refine ⟨(p, p'), rfl, ?_⟩; rintro _ _ ⟨rfl, rfl⟩))
  all_goals (conv => whnf)
  all_goals refine ⟨⟨rfl, ?_⟩⟩
  all_goals show _ = [[D.lf (.bool (eqX (⟨k, x, s, m, st, a, c, p, t⟩ : MsgX) ⟨k', x', s', m', st', a', c', p', t'⟩))]]
  all_goals congr 4
  all_goals rw [eq_comm]
  all_goals simp_all [eqX_iff, eqX_no]
theorem eqMsg_ok : FnOk Try.prog 29 (cEq MsgX.ds) := fnOk_of fun x => fnX_at tab_ok (SOk.cons eqTx_ok (SOk.cons eqAsk_ok (SOk.cons eqPairS_ok SOk.nil))) mixed (fn := Try.f29) (code := body Try.f29) ⟨Try.func29, rfl, by kernel_rfl, by kernel_rfl, by kernel_rfl, by kernel_rfl⟩ (ev_eqMsg x)
def pairOkB (p : RngX) : Bool := userOkB p.lo && uvalOkB p.hi
theorem ev_userPair : ∀ x, evFnX tab [(200, cUserOk), (201, cUvalOk)] (pureC RngX [(.rd, true)] [false] (fun x => [x.ds]) (fun x => [[.lf (.bool (pairOkB x))]])) Try.f205 (body Try.f205) x := by
  rintro ⟨u, v⟩
  repeat' ((conv => whnf); first | refine br2 (fun h => ?_) (fun h => ?_) | (refine ⟨u, rfl, ?_⟩; rintro _ _ ⟨rfl, rfl⟩) | (refine ⟨v, rfl, ?_⟩; rintro _ _ ⟨rfl, rfl⟩))
  all_goals (conv => whnf)
  all_goals refine ⟨⟨rfl, ?_⟩⟩
  all_goals show _ = [[D.lf (.bool (pairOkB ⟨u, v⟩))]]
  all_goals simp_all [pairOkB]
theorem userPair_ok : FnOk Try.prog 205 (pureC RngX [(.rd, true)] [false] (fun x => [x.ds]) (fun x => [[.lf (.bool (pairOkB x))]])) := fnOk_of fun x => fnX_at tab_ok (SOk.cons iUserOk_ok (SOk.cons iUvalOk_ok SOk.nil)) mixed (fn := Try.f205) (code := body Try.f205) ⟨Try.func205, rfl, by kernel_rfl, by kernel_rfl, by kernel_rfl, by kernel_rfl⟩ (ev_userPair x)
theorem ev_badPair : ∀ x, evFnX tab [(205, (pureC RngX [(.rd, true)] [false] (fun x => [x.ds]) (fun x => [[.lf (.bool (pairOkB x))]])))] (pureC RngX [(.rd, true)] [false] (fun x => [x.ds]) (fun x => [[.lf (.bool (!pairOkB x))]])) Try.f204 (body Try.f204) x := by
  intro x
  conv => whnf
  refine ⟨x, rfl, ?_⟩
  rintro _ _ ⟨rfl, rfl⟩
  conv => whnf
  exact ⟨⟨rfl, rfl⟩⟩
theorem badPair_ok : FnOk Try.prog 204 (pureC RngX [(.rd, true)] [false] (fun x => [x.ds]) (fun x => [[.lf (.bool (!pairOkB x))]])) := fnOk_of fun x => fnX_at tab_ok (SOk.cons userPair_ok SOk.nil) mixed (fn := Try.f204) (code := body Try.f204) ⟨Try.func204, rfl, by kernel_rfl, by kernel_rfl, by kernel_rfl, by kernel_rfl⟩ (ev_badPair x)
def badD : D := .fn 204 []
def badV : V := .fn 204 []
def cIdxP : Con := relC (List RngX) [(.rd, false), (.rd, false)] [false] (fun x => [[.row 2 RngX.ds x], [badD]]) (fun x r => ∃ k : Int, r = [[.lf (.int .i64 k)]] ∧ decide (0 ≤ k) = x.any fun p => !pairOkB p)
theorem ev_idxP : ∀ x, evFnX tab [(204, (pureC RngX [(.rd, true)] [false] (fun x => [x.ds]) (fun x => [[.lf (.bool (!pairOkB x))]])))] cIdxP Try.f228 (body Try.f228) x := by
  intro (l : List RngX)
  conv => whnf
  intro h1
  replace h1 : l.length ≤ 9223372036854775807 := h1
  conv => whnf
  refine ⟨fun m s h => ∃ i : Nat, i ≤ l.length ∧ (∀ j y, j < i → l[j]? = some y → (!pairOkB y) = false) ∧ m = l.length - i ∧ s = [(8, .lf (.int .i64 i)), (7, .lf (.int .i64 l.length)), (6, .sl 0 none), (1, badV), (0, .sl 0 none)] ∧ h = [(0, some (.row .lent 2 RngX.ds l))],
    l.length, [(0, 0)], [(8, .lf (.int .i64 0)), (7, .lf (.int .i64 l.length)), (6, .sl 0 none), (1, badV), (0, .sl 0 none)], [(0, some (.row .lent 2 RngX.ds l))], ⟨rfl, ⟨rfl, rfl, rfl, rfl, rfl, trivial⟩, ⟨rfl, trivial⟩⟩, ⟨0, by omega, fun j y h => by omega, by omega, rfl, rfl⟩, ?_⟩
  rintro m _ _ ⟨i, g1, g2, rfl, rfl, rfl⟩
  conv => whnf
  refine br2 (fun h5 => ?_) (fun h5 => ?_)
  · have hi : i < l.length := by have := of_decide_eq_true h5; omega
    obtain ⟨y, hy⟩ : ∃ y, l[i]? = some y := ⟨_, List.getElem?_eq_getElem hi⟩
    have hy2 : nth l ((i : Nat) : Int).toNat = some y := by rw [nth_eq, Int.toNat_natCast]; exact hy
    conv => whnf
    refine ⟨Int.natCast_nonneg _, (show (i : Int) < (l.length : Int) by omega), ?_⟩
    conv => whnf
    refine ex2 y hy2 ?_
    conv => whnf
    refine ⟨y, rfl, ?_⟩
    rintro _ _ ⟨rfl, rfl⟩
    conv => whnf
    refine br2 (fun h6 => ?_) (fun h6 => ?_)
    · conv => whnf
      refine ⟨⟨rfl, _, rfl, ?_⟩⟩
      have : (l.any fun p => !pairOkB p) = true := any_at hy h6
      show decide (0 ≤ (i : Int)) = l.any fun p => !pairOkB p
      rw [this, decide_eq_true_iff]
      omega
    · replace h6 : (!pairOkB y) = false := h6
      conv => whnf
      refine ⟨l.length - (i + 1), [(0, 0)], [(8, .lf (.int .i64 ((i + 1 : Nat) : Int))), (7, .lf (.int .i64 l.length)), (6, .sl 0 none), (1, badV), (0, .sl 0 none)], [(0, some (.row .lent 2 RngX.ds l))], by omega, ⟨rfl, ⟨?_, rfl, rfl, rfl, rfl, trivial⟩, ⟨rfl, trivial⟩⟩, i + 1, by omega, fun j z hj hz => ?_, rfl, rfl, rfl⟩
      · show V.lf (.int .i64 (IntKind.i64.wrap ((i : Int) + 1))) = _
        rw [w64 (by omega) (by omega)]; rfl
      · rcases Nat.lt_or_ge j i with h7 | h7
        · exact g2 j z h7 hz
        · obtain rfl : j = i := by omega
          rw [hy] at hz; cases hz; exact h6
  · have hi : i = l.length := by have := of_decide_eq_false h5; omega
    conv => whnf
    refine ⟨⟨rfl, _, rfl, ?_⟩⟩
    have : (l.any fun p => !pairOkB p) = false := any_no (by rw [← hi]; exact g2)
    show decide ((0 : Int) ≤ -1) = l.any fun p => !pairOkB p
    rw [this]
    rfl
theorem idxP_ok : FnOk Try.prog 228 cIdxP := fnOk_of fun x => fnX_at tab_ok (SOk.cons badPair_ok SOk.nil) mixed (fn := Try.f228) (code := body Try.f228) ⟨Try.func228, rfl, by kernel_rfl, by kernel_rfl, by kernel_rfl, by kernel_rfl⟩ (ev_idxP x)
theorem ev_conP : ∀ x, evFnX tab [(228, cIdxP)] (pureC (List RngX) [(.rd, false), (.rd, false)] [false] (fun x => [[.row 2 RngX.ds x], [badD]]) (fun x => [[.lf (.bool (x.any fun p => !pairOkB p))]])) Try.f203 (body Try.f203) x := by
  intro (l : List RngX)
  conv => whnf
  refine ⟨l, rfl, ?_⟩
  rintro _ _ ⟨rfl, k, rfl, k1⟩
  conv => whnf
  refine ⟨⟨rfl, ?_⟩⟩
  replace k1 : decide (0 ≤ k) = l.any fun p => !pairOkB p := k1
  show _ = [[D.lf (.bool (l.any fun p => !pairOkB p))]]
  rw [← k1]
theorem conP_ok : FnOk Try.prog 203 (pureC (List RngX) [(.rd, false), (.rd, false)] [false] (fun x => [[.row 2 RngX.ds x], [badD]]) (fun x => [[.lf (.bool (x.any fun p => !pairOkB p))]])) := fnOk_of fun x => fnX_at tab_ok (SOk.cons idxP_ok SOk.nil) mixed (fn := Try.f203) (code := body Try.f203) ⟨Try.func203, rfl, by kernel_rfl, by kernel_rfl, by kernel_rfl, by kernel_rfl⟩ (ev_conP x)
def tellOkB (x : MsgX) : Bool := decide (x.ps.length ≤ 8) && x.ps.all pairOkB && (if x.code = 0 then decide (1 ≤ x.st) && decide (x.st ≤ 1099511627775) else decide (1 ≤ x.code) && decide (x.code ≤ 9) && x.st == 0)
theorem tellOk_iff {k : Int} {x : TxX} {s m st : Int} {a : AskX} {c : Int} {p : List RngX} {t : Bool} : tellOkB ⟨k, x, s, m, st, a, c, p, t⟩ = true ↔ p.length ≤ 8 ∧ p.all pairOkB = true ∧
    ((c = 0 ∧ 1 ≤ st ∧ st ≤ 1099511627775) ∨ (c ≠ 0 ∧ 1 ≤ c ∧ c ≤ 9 ∧ st = 0)) := by
  unfold tellOkB
  by_cases hc : c = 0
  · subst hc; simp [and_assoc]
  · simp [hc, and_assoc]
theorem ev_tellOk : ∀ x, evFnX tab [(203, (pureC (List RngX) [(.rd, false), (.rd, false)] [false] (fun x => [[.row 2 RngX.ds x], [badD]]) (fun x => [[.lf (.bool (x.any fun p => !pairOkB p))]]))), (164, cWithin)] (pureC MsgX [(.rd, true)] [false] (fun x => [x.ds]) (fun x => [[.lf (.bool (tellOkB x))]])) Try.f166 (body Try.f166) x := by
  rintro ⟨k, x, s, m, st, a, c, p, t⟩
  have e1 : (p.any fun p => !pairOkB p) = !p.all pairOkB := by rw [List.all_eq_not_any_not]; simp
  conv => whnf
  intro h1
  repeat' ((conv => whnf); first | refine br2 (fun h => ?_) (fun h => ?_) | (refine ⟨p, rfl, ?_⟩; rintro _ _ ⟨rfl, rfl⟩) | (refine ⟨⟨st, 1, 1099511627775⟩, rfl, ?_⟩; rintro _ _ ⟨rfl, rfl⟩) | (refine ⟨⟨c, 1, 9⟩, rfl, ?_⟩; rintro _ _ ⟨rfl, rfl⟩))
  all_goals (conv => whnf)
  all_goals refine ⟨⟨rfl, ?_⟩⟩
  all_goals show _ = [[D.lf (.bool (tellOkB ⟨k, x, s, m, st, a, c, p, t⟩))]]
  all_goals congr 4
  all_goals rw [b_iff, tellOk_iff]
  all_goals generalize p.all pairOkB = q at *
  all_goals simp only [e1] at *
  all_goals simp_all
  all_goals try omega
theorem tellOk_ok : FnOk Try.prog 166 (pureC MsgX [(.rd, true)] [false] (fun x => [x.ds]) (fun x => [[.lf (.bool (tellOkB x))]])) := fnOk_of fun x => fnX_at tab_ok (SOk.cons conP_ok (SOk.cons within_ok SOk.nil)) mixed (fn := Try.f166) (code := body Try.f166) ⟨Try.func166, rfl, by kernel_rfl, by kernel_rfl, by kernel_rfl, by kernel_rfl⟩ (ev_tellOk x)
theorem ev_equalP : ∀ x, evFnX tab [] (cEqS 2 RngX.ds) Try.f206 (body Try.f206) x := by
  rintro ⟨l, m⟩
  conv => whnf
  intro h1
  replace h1 : l.length ≤ 9223372036854775807 := h1
  conv => whnf
  intro h2
  conv => whnf
  refine br2 (fun h3 => ?_) (fun h3 => ?_)
  · conv => whnf
    refine ⟨⟨rfl, ?_⟩⟩
    show _ = [[D.lf (.bool (eqX l m))]]
    have : l ≠ m := by rintro rfl; simp at h3
    rw [eqX_no.2 this]
  have hl : l.length = m.length := by
    replace h3 : ((l.length : Int) != (m.length : Int)) = false := h3
    simp at h3; omega
  conv => whnf
  intro _
  conv => whnf
  refine ⟨fun k s h => ∃ i : Nat, i ≤ l.length ∧ (∀ j, j < i → l[j]? = m[j]?) ∧ k = l.length - i ∧ s = [(13, .lf (.int .i64 i)), (12, .lf (.int .i64 l.length)), (0, .sl 0 none), (1, .sl 16 none)] ∧ h = [(0, some (.row .lent 2 RngX.ds l)), (16, some (.row .lent 2 RngX.ds m))],
    l.length, [(0, 0), (16, 16)], [(13, .lf (.int .i64 0)), (12, .lf (.int .i64 l.length)), (0, .sl 0 none), (1, .sl 16 none)], [(0, some (.row .lent 2 RngX.ds l)), (16, some (.row .lent 2 RngX.ds m))], ⟨rfl, ⟨rfl, rfl, rfl, rfl, trivial⟩, ⟨rfl, rfl, trivial⟩⟩, ⟨0, by omega, fun j h => by omega, by omega, rfl, rfl⟩, ?_⟩
  rintro k _ _ ⟨i, g1, g2, rfl, rfl, rfl⟩
  conv => whnf
  refine br2 (fun h5 => ?_) (fun h5 => ?_)
  · have hi : i < l.length := by have := of_decide_eq_true h5; omega
    obtain ⟨y, hy⟩ : ∃ y, l[i]? = some y := ⟨_, List.getElem?_eq_getElem hi⟩
    have hy2 : nth l ((i : Nat) : Int).toNat = some y := by rw [nth_eq, Int.toNat_natCast]; exact hy
    obtain ⟨z, hz⟩ : ∃ z, m[i]? = some z := ⟨_, List.getElem?_eq_getElem (by omega)⟩
    have hz2 : nth m ((i : Nat) : Int).toNat = some z := by rw [nth_eq, Int.toNat_natCast]; exact hz
    conv => whnf
    refine ⟨Int.natCast_nonneg _, (show (i : Int) < (l.length : Int) by omega), ?_⟩
    conv => whnf
    refine ex2 y hy2 ?_
    conv => whnf
    refine ⟨Int.natCast_nonneg _, (show (i : Int) < (m.length : Int) by omega), ?_⟩
    conv => whnf
    refine ex2 z hz2 ?_
    conv => whnf
    have hyz : (strEq y.lo z.lo && (strEq y.hi z.hi && true)) = eqX y z := by
      obtain ⟨a, b⟩ := y
      obtain ⟨c, d⟩ := z
      rw [b_iff]
      simp [eqX_iff, strEq_iff]
    refine br2 (fun h6 => ?_) (fun h6 => ?_)
    · replace h6 : (!(strEq y.lo z.lo && (strEq y.hi z.hi && true))) = true := h6
      rw [hyz, Bool.not_eq_true', eqX_no] at h6
      conv => whnf
      refine ⟨⟨rfl, ?_⟩⟩
      show _ = [[D.lf (.bool (eqX l m))]]
      have : l ≠ m := by rintro rfl; rw [hy] at hz; cases hz; exact h6 rfl
      rw [eqX_no.2 this]
    · replace h6 : (!(strEq y.lo z.lo && (strEq y.hi z.hi && true))) = false := h6
      rw [hyz, Bool.not_eq_false', eqX_iff] at h6
      conv => whnf
      refine ⟨l.length - (i + 1), [(0, 0), (16, 16)], [(13, .lf (.int .i64 ((i + 1 : Nat) : Int))), (12, .lf (.int .i64 l.length)), (0, .sl 0 none), (1, .sl 16 none)], [(0, some (.row .lent 2 RngX.ds l)), (16, some (.row .lent 2 RngX.ds m))], by omega, ⟨rfl, ⟨?_, rfl, rfl, rfl, trivial⟩, ⟨rfl, rfl, trivial⟩⟩, i + 1, by omega, fun j hj => ?_, rfl, rfl, rfl⟩
      · show V.lf (.int .i64 (IntKind.i64.wrap ((i : Int) + 1))) = _
        rw [w64 (by omega) (by omega)]; rfl
      · rcases Nat.lt_or_ge j i with h7 | h7
        · exact g2 j h7
        · obtain rfl : j = i := by omega
          rw [hy, hz, h6]
  · have hi : i = l.length := by have := of_decide_eq_false h5; omega
    conv => whnf
    refine ⟨⟨rfl, ?_⟩⟩
    show _ = [[D.lf (.bool (eqX l m))]]
    have : l = m := by
      apply List.ext_getElem?
      intro j
      rcases Nat.lt_or_ge j l.length with h | h
      · exact g2 j (by omega)
      · rw [List.getElem?_eq_none h, List.getElem?_eq_none (by omega)]
    rw [eqX_iff.2 this]
theorem equalP_ok : FnOk Try.prog 206 (cEqS 2 RngX.ds) := fnOk_of fun x => fnX_at tab_ok (SOk.nil) mixed (fn := Try.f206) (code := body Try.f206) ⟨Try.func206, rfl, by kernel_rfl, by kernel_rfl, by kernel_rfl, by kernel_rfl⟩ (ev_equalP x)
theorem ev_sameMsg : ∀ x, evFnX tab [(206, (cEqS 2 RngX.ds))] (cEq MsgX.ds) Try.f167 (body Try.f167) x := by
  rintro ⟨⟨k, ⟨x1, x2, x3⟩, s, m, st, ⟨a1, a2, a3, ⟨a4, a5⟩, a6, a7⟩, c, p, t⟩, ⟨k', ⟨x1', x2', x3'⟩, s', m', st', ⟨a1', a2', a3', ⟨a4', a5'⟩, a6', a7'⟩, c', p', t'⟩⟩
  repeat' ((conv => whnf); first | refine br2 (fun h => ?_) (fun h => ?_) | (refine ⟨(p, p'), rfl, ?_⟩; rintro _ _ ⟨rfl, rfl⟩))
  all_goals (conv => whnf)
  all_goals refine ⟨⟨rfl, ?_⟩⟩
  all_goals show _ = [[D.lf (.bool (eqX (⟨k, ⟨x1, x2, x3⟩, s, m, st, ⟨a1, a2, a3, ⟨a4, a5⟩, a6, a7⟩, c, p, t⟩ : MsgX) ⟨k', ⟨x1', x2', x3'⟩, s', m', st', ⟨a1', a2', a3', ⟨a4', a5'⟩, a6', a7'⟩, c', p', t'⟩))]]
  all_goals congr 4
  all_goals rw [b_iff, eqX_iff]
  all_goals simp_all [eqX_iff, eqX_no, strEq_iff, strEq_no]

theorem sameMsg_ok : FnOk Try.prog 167 (cEq MsgX.ds) := fnOk_of fun x => fnX_at tab_ok (SOk.cons equalP_ok SOk.nil) mixed (fn := Try.f167) (code := body Try.f167) ⟨Try.func167, rfl, by kernel_rfl, by kernel_rfl, by kernel_rfl, by kernel_rfl⟩ (ev_sameMsg x)
end Go.Vm
namespace Go.Vm
open Go.Proofs
set_option maxRecDepth 100000
set_option linter.unusedVariables false
set_option linter.unusedSimpArgs false

def askE (x : AskX) : List D := x.ds
def msgE (x : MsgX) : List D := x.ds
def askP (x : AskX) : Prop := True
def msgP (k : Nat) (x : MsgX) : Prop := x.ps.length ≤ k
theorem askFin (c : CurX) (a : Int) (u v lo hi : ByteArray) (n : Int) (x : Bool) : ∃ (c' : CurX) (r : AskX), [[c.d]] = [[c'.d]] ∧ [[D.lf (.int .i64 a), .lf (.string u), .lf (.string v), .lf (.string lo), .lf (.string hi), .lf (.int .i64 n), .lf (.bool x)]] = [askE r] ∧ askP r := ⟨c, ⟨a, u, v, ⟨lo, hi⟩, n, x⟩, rfl, rfl, trivial⟩
theorem ev_l02AnyKey : ∀ x, evFnX tab [(125, cBelow), (181, (cDraw false strE (strP 16)))] (cDraw false strE (strP 17)) Try.f144 (body Try.f144) x := by
  intro c
  conv => whnf
  refine useBelow (c := c) (n := 8) rfl (by decide) fun c k k1 k2 _ => ?_
  conv => whnf
  refine br2 (fun h => ?_) (fun _ => ?_)
  · conv => whnf
    refine useBelow (c := c) (n := 4) rfl (by decide) fun c v a1 a2 _ => ?_
    replace a2 : v < 4 := a2 (by decide)
    conv => whnf
    refine ⟨a1, a2, ?_⟩
    conv => whnf
    refine exStr 17 rfl (show v.toNat < 4 by omega) fun s hs => ?_
    conv => whnf
    exact ⟨⟨c, s, rfl, rfl, hs⟩⟩
  conv => whnf
  refine useDraw (c := c) rfl fun c s hs => ?_
  replace hs : s.size ≤ 16 := hs
  conv => whnf
  exact ⟨⟨c, s, rfl, rfl, (show s.size ≤ 17 by omega)⟩⟩
theorem l02AnyKey_ok : FnOk Try.prog 144 (cDraw false strE (strP 17)) := fnOk_of fun x => fnX_at tab_ok (SOk.cons l01Below_ok (SOk.cons l02Key_ok SOk.nil)) mixed (fn := Try.f144) (code := body Try.f144) ⟨Try.func144, rfl, by kernel_rfl, by kernel_rfl, by kernel_rfl, by kernel_rfl⟩ (ev_l02AnyKey x)
theorem ev_l09Ask : ∀ x, evFnX tab [(125, cBelow), (229, (cDraw true rngE (rngP 17))), (209, (cDraw false strE (strP 16))), (210, (cDraw false strE (strP 20)))] (cDraw true askE askP) Try.f208 (body Try.f208) x := by
  intro c
  conv => whnf
  refine useBelow (c := c) (n := 4) rfl (by decide) fun c k k1 k2 _ => ?_
  conv => whnf
  refine br2 (fun h => ?_) (fun h => ?_)
  · conv => whnf
    refine useDraw (c := c) rfl fun c r _ => ?_
    conv => whnf
    refine useBelow (c := c) (n := 8) rfl (by decide) fun c n _ _ _ => ?_
    conv => whnf
    refine useBelow (c := c) (n := 2) rfl (by decide) fun c b _ _ _ => ?_
    conv => whnf
    exact ⟨askFin _ _ _ _ _ _ _ _⟩
  conv => whnf
  refine useDraw (c := c) rfl fun c u _ => ?_
  conv => whnf
  refine br2 (fun h => ?_) (fun h => ?_)
  · conv => whnf
    refine useDraw (c := c) rfl fun c v _ => ?_
    conv => whnf
    exact ⟨askFin _ _ _ _ _ _ _ _⟩
  · conv => whnf
    exact ⟨askFin _ _ _ _ _ _ _ _⟩
theorem l09Ask_ok : FnOk Try.prog 208 (cDraw true askE askP) := fnOk_of fun x => fnX_at tab_ok (SOk.cons l01Below_ok (SOk.cons l08Reach_ok (SOk.cons l08User_ok (SOk.cons l08Uval_ok SOk.nil)))) mixed (fn := Try.f208) (code := body Try.f208) ⟨Try.func208, rfl, by kernel_rfl, by kernel_rfl, by kernel_rfl, by kernel_rfl⟩ (ev_l09Ask x)
theorem ev_l09AnyAsk : ∀ x, evFnX tab [(125, cBelow), (126, (cDraw false intE intP)), (208, (cDraw true askE askP)), (124, (cDraw true rngE (rngP 20)))] (cDraw true askE askP) Try.f173 (body Try.f173) x := by
  intro c
  conv => whnf
  refine useDraw (c := c) rfl fun c x _ => ?_
  obtain ⟨ak, u, v, ⟨lo, hi⟩, an, bk⟩ := x
  conv => whnf
  refine useBelow (c := c) (n := 14) rfl (by decide) fun c k k1 k2 k3 => ?_
  clear k1 k2 k3
  have q : ∀ {a b : Int}, (a == b) = true → a = b := fun h => eq_of_beq h
  have lit : ∀ n : Int, -2000 ≤ n → n ≤ 2000 → intP n := fun n h1 h2 => ⟨by omega, by omega⟩
  conv => whnf
  refine br2 (fun h0 => ?_) (fun h0 => ?_)
  · obtain rfl := q h0
    conv => whnf
    refine useDraw (c := c) rfl fun c a ha => ?_
    conv => whnf
    exact ⟨askFin _ _ _ _ _ _ _ _⟩
  conv => whnf
  refine br2 (fun h0 => ?_) (fun h0 => ?_)
  · obtain rfl := q h0
    conv => whnf
    refine useBelow (c := c) (n := 3) rfl (by decide) fun c i i1 i2 _ => ?_
    replace i2 : i < 3 := i2 (by decide)
    conv => whnf
    refine ⟨i1, i2, ?_⟩
    conv => whnf
    refine exStr 20 rfl (show i.toNat < 3 by omega) fun s _ => ?_
    conv => whnf
    exact ⟨askFin _ _ _ _ _ _ _ _⟩
  conv => whnf
  refine br2 (fun h0 => ?_) (fun h0 => ?_)
  · obtain rfl := q h0
    conv => whnf
    refine useBelow (c := c) (n := 3) rfl (by decide) fun c i i1 i2 _ => ?_
    replace i2 : i < 3 := i2 (by decide)
    conv => whnf
    refine ⟨i1, i2, ?_⟩
    conv => whnf
    refine exInt rfl (show i.toNat < 3 by omega) fun s _ _ => ?_
    conv => whnf
    exact ⟨askFin _ _ _ _ _ _ _ _⟩
  conv => whnf
  refine br2 (fun h0 => ?_) (fun h0 => ?_)
  · obtain rfl := q h0
    conv => whnf
    refine useDraw (c := c) rfl fun c a ha => ?_
    conv => whnf
    exact ⟨askFin _ _ _ _ _ _ _ _⟩
  conv => whnf
  refine br2 (fun h0 => ?_) (fun h0 => ?_)
  · obtain rfl := q h0
    conv => whnf
    exact ⟨askFin _ _ _ _ _ _ _ _⟩
  conv => whnf
  exact ⟨askFin _ _ _ _ _ _ _ _⟩
theorem l09AnyAsk_ok : FnOk Try.prog 173 (cDraw true askE askP) := fnOk_of fun x => fnX_at tab_ok (SOk.cons l01Below_ok (SOk.cons l01Raw_ok (SOk.cons l09Ask_ok (SOk.cons l02AnyRange_ok SOk.nil)))) mixed (fn := Try.f173) (code := body Try.f173) ⟨Try.func173, rfl, by kernel_rfl, by kernel_rfl, by kernel_rfl, by kernel_rfl⟩ (ev_l09AnyAsk x)
theorem msgFin {k : Nat} (c : CurX) (a b d e f g h i : Int) (u v lo hi : ByteArray) (n : Int) (x : Bool) (co : Int) (ps : List RngX) (y : Bool) (hp : ps.length ≤ k) : ∃ (c' : CurX) (r : MsgX), [[c.d]] = [[c'.d]] ∧ [[D.lf (.int .i64 a), .lf (.int .i64 b), .lf (.int .i64 d), .lf (.int .i64 e), .lf (.int .i64 f), .lf (.int .i64 g), .lf (.int .i64 h), .lf (.int .i64 i), .lf (.string u), .lf (.string v), .lf (.string lo), .lf (.string hi), .lf (.int .i64 n), .lf (.bool x), .lf (.int .i64 co), .row 2 RngX.ds ps, .lf (.bool y)]] = [msgE r] ∧ msgP k r :=
  ⟨c, ⟨a, ⟨b, d, e⟩, f, g, h, ⟨i, u, v, ⟨lo, hi⟩, n, x⟩, co, ps, y⟩, rfl, rfl, hp⟩
def msgZ0 : List V := [.lf (.int .i64 0), .lf (.int .i64 0), .lf (.int .i64 0), .lf (.int .i64 0), .lf (.int .i64 0), .lf (.int .i64 0), .lf (.int .i64 0), .lf (.int .i64 0), .lf (.string ⟨#[]⟩), .lf (.string ⟨#[]⟩), .lf (.string ⟨#[]⟩), .lf (.string ⟨#[]⟩), .lf (.int .i64 0), .lf (.bool false), .lf (.int .i64 0), .lf (.slice none 0 0), .lf (.bool false)]
def nmd (d : Nat) : Nat := 16 * (300000 + 8 * d)
theorem ev_l09Msg : ∀ x, evFnX tab [(1000008, cGh), (125, cBelow), (207, (cDraw true txE txP)), (208, (cDraw true askE askP)), (209, (cDraw false strE (strP 16))), (210, (cDraw false strE (strP 20)))] (cDraw true msgE (msgP 20)) Try.f171 (body Try.f171) x := by
  intro c
  conv => whnf
  refine useBelow (c := c) (n := 7) rfl (by decide) fun c v v1 v2 _ => ?_
  replace v2 : v < 7 := v2 (by decide)
  conv => whnf
  refine useDraw (c := c) rfl fun c t _ => ?_
  conv => whnf
  refine useBelow (c := c) (n := 3) rfl (by decide) fun c sh _ _ _ => ?_
  rcases (show v = 0 ∨ v = 1 ∨ v = 2 ∨ v = 3 ∨ v = 4 ∨ v = 5 ∨ v = 6 by omega) with rfl | rfl | rfl | rfl | rfl | rfl | rfl
  · conv => whnf
    refine useBelow (c := c) (n := 3) rfl (by decide) fun c nu _ _ _ => ?_
    conv => whnf
    refine useDraw (c := c) rfl fun c a _ => ?_
    conv => whnf
    refine ⟨2, RngX, RngX.ds, fun _ => rfl, ?_⟩
    conv => whnf
    exact ⟨msgFin _ _ _ _ _ _ _ _ _ _ _ _ _ _ _ _ _ _ (show ([] : List RngX).length ≤ 20 by decide)⟩
  · conv => whnf
    refine useBelow (c := c) (n := 3) rfl (by decide) fun c nu _ _ _ => ?_
    conv => whnf
    refine useBelow (c := c) (n := 3) rfl (by decide) fun c co _ _ _ => ?_
    conv => whnf
    refine ⟨[.nlc 48 0 15 100], ?_⟩
    conv => whnf
    refine ⟨2, RngX, RngX.ds, fun _ => rfl, ?_⟩
    conv => whnf
    refine useBelow (c := c) (n := 4) rfl (by decide) fun c k k1 k2 _ => ?_
    replace k2 : k < 4 := k2 (by decide)
    conv => whnf
    let S (k : Int) : Sl := [(4, .lf (.int .i64 k)), (3, .pt 48 0 0), (2, .pt 32 0 0), (1000000, .pt 0 0 0), (0, .pt 0 0 0)]
    let H (c : CurX) (ps : List RngX) : Hp := [(3200, some (.row .ro 1 encB c.b)), (0, some (.arr true 3 [[.sl 3200 none, .lf (.int .i64 c.i), .lf (.int .i64 c.h)]])), (1600, some (.row .own 2 RngX.ds ps)),
      (48, some (.arr true 17 [[.lf (.int .i64 (IntKind.i64.wrap (1 + 1))), .lf (.int .i64 t.c), .lf (.int .i64 t.e), .lf (.int .i64 t.n), .lf (.int .i64 sh), .lf (.int .i64 (IntKind.i64.wrap (1 + nu))), .lf (.int .i64 0), .lf (.int .i64 0), .lf (.string ⟨#[]⟩), .lf (.string ⟨#[]⟩), .lf (.string ⟨#[]⟩), .lf (.string ⟨#[]⟩), .lf (.int .i64 0), .lf (.bool false), .lf (.int .i64 co), .sl 1600 none, .lf (.bool false)]])), (32, some (.arr true 17 [msgZ0]))]
    refine ⟨fun m s h => ∃ (c : CurX) (k : Int) (ps : List RngX), 0 ≤ k ∧ k ≤ 3 ∧ ps.length + k ≤ 3 ∧ m = k.toNat ∧ s = S k ∧ h = H c ps,
      k.toNat, [(nmd 33, 3200), (0, 0), (1600, 1600), (48, 48), (32, 32)], S k, H c [], ⟨rfl, ⟨rfl, rfl, rfl, rfl, rfl, trivial⟩, by rfl, rfl, rfl, rfl, rfl, trivial⟩, ⟨c, k, [], k1, by omega, by simp; omega, rfl, rfl, rfl⟩, ?_⟩
    rintro m _ _ ⟨c, k, ps, g1, g2, g3, rfl, rfl, rfl⟩
    conv => whnf
    refine br2 (fun h0 => ?_) (fun h0 => ?_)
    · have h0' : k > 0 := of_decide_eq_true h0
      have hw : V.lf (.int .i64 (IntKind.i64.wrap (k - 1))) = V.lf (.int .i64 (k - 1)) := by rw [w64 (by omega) (by omega)]
      conv => whnf
      repeat (refine rc_i rfl ?_; conv => whnf)
      refine useDraw (c := c) rfl fun c u _ => ?_
      conv => whnf
      repeat (refine rc_i rfl ?_; conv => whnf)
      refine useDraw (c := c) rfl fun c w _ => ?_
      conv => whnf
      repeat (refine rc_i rfl ?_; conv => whnf)
      refine ⟨[⟨u, w⟩], rfl, (show ps.length + 1 ≤ 4294967296 by omega), ?_⟩
      conv => whnf
      repeat (refine rc_i rfl ?_; conv => whnf)
      refine ⟨(k - 1).toNat, [(nmd 43, 3200), (0, 0), (736, 1600), (48, 48), (32, 32)], S (k - 1), H c (ps ++ [⟨u, w⟩]), by omega, ?_, c, k - 1, ps ++ [⟨u, w⟩], by omega, by omega, by simp; omega, rfl, rfl, rfl⟩
      exact ⟨rfl, ⟨hw, rfl, rfl, rfl, rfl, trivial⟩, by rfl, rfl, by rfl, rfl, rfl, trivial⟩
    have hp : ps.length ≤ 20 := by omega
    conv => whnf
    refine br2 (fun h1 => ?_) (fun h1 => ?_)
    · conv => whnf
      refine useBelow (c := c) (n := 3) rfl (by decide) fun c st _ _ _ => ?_
      conv => whnf
      exact ⟨msgFin _ _ _ _ _ _ _ _ _ _ _ _ _ _ _ _ _ _ hp⟩
    · conv => whnf
      exact ⟨msgFin _ _ _ _ _ _ _ _ _ _ _ _ _ _ _ _ _ _ hp⟩
  · conv => whnf
    refine useBelow (c := c) (n := 3) rfl (by decide) fun c nu _ _ _ => ?_
    conv => whnf
    refine useBelow (c := c) (n := 3) rfl (by decide) fun c st _ _ _ => ?_
    conv => whnf
    refine ⟨2, RngX, RngX.ds, fun _ => rfl, ?_⟩
    conv => whnf
    exact ⟨msgFin _ _ _ _ _ _ _ _ _ _ _ _ _ _ _ _ _ _ (show ([] : List RngX).length ≤ 20 by decide)⟩
  · conv => whnf
    refine useBelow (c := c) (n := 2) rfl (by decide) fun c ys _ _ _ => ?_
    conv => whnf
    refine ⟨2, RngX, RngX.ds, fun _ => rfl, ?_⟩
    conv => whnf
    exact ⟨msgFin _ _ _ _ _ _ _ _ _ _ _ _ _ _ _ _ _ _ (show ([] : List RngX).length ≤ 20 by decide)⟩
  · conv => whnf
    refine useBelow (c := c) (n := 2) rfl (by decide) fun c ys _ _ _ => ?_
    conv => whnf
    refine ⟨2, RngX, RngX.ds, fun _ => rfl, ?_⟩
    conv => whnf
    exact ⟨msgFin _ _ _ _ _ _ _ _ _ _ _ _ _ _ _ _ _ _ (show ([] : List RngX).length ≤ 20 by decide)⟩
  · conv => whnf
    refine ⟨2, RngX, RngX.ds, fun _ => rfl, ?_⟩
    conv => whnf
    exact ⟨msgFin _ _ _ _ _ _ _ _ _ _ _ _ _ _ _ _ _ _ (show ([] : List RngX).length ≤ 20 by decide)⟩
  · conv => whnf
    refine ⟨2, RngX, RngX.ds, fun _ => rfl, ?_⟩
    conv => whnf
    exact ⟨msgFin _ _ _ _ _ _ _ _ _ _ _ _ _ _ _ _ _ _ (show ([] : List RngX).length ≤ 20 by decide)⟩
theorem l09Msg_ok : FnOk Try.prog 171 (cDraw true msgE (msgP 20)) := fnOk_of fun x => fnX_at tab_ok (SOk.cons gh_ok (SOk.cons l01Below_ok (SOk.cons l07Tx_ok (SOk.cons l09Ask_ok (SOk.cons l08User_ok (SOk.cons l08Uval_ok SOk.nil)))))) mixed (fn := Try.f171) (code := body Try.f171) ⟨Try.func171, rfl, by kernel_rfl, by kernel_rfl, by kernel_rfl, by kernel_rfl⟩ (ev_l09Msg x)
theorem ev_l09Any : ∀ x, evFnX tab [(125, cBelow), (126, (cDraw false intE intP)), (172, (cDraw true txE txP)), (173, (cDraw true askE askP)), (171, (cDraw true msgE (msgP 20))), (144, (cDraw false strE (strP 17)))] (cDraw true msgE (msgP 100)) Try.f108 (body Try.f108) x := by
  intro c
  conv => whnf
  refine useDraw (c := c) rfl fun c x hx => ?_
  obtain ⟨mk, ⟨tc, te, tn⟩, sh, nu, st, ⟨ak, u, v, ⟨lo, hi⟩, an, bk⟩, co, ps, ys⟩ := x
  replace hx : ps.length ≤ 20 := hx
  have hp : ps.length ≤ 100 := by omega
  conv => whnf
  refine useBelow (c := c) (n := 18) rfl (by decide) fun c k k1 k2 k3 => ?_
  clear k1 k2 k3
  have q : ∀ {a b : Int}, (a == b) = true → a = b := fun h => eq_of_beq h
  conv => whnf
  refine br2 (fun h0 => ?_) (fun h0 => ?_)
  · obtain rfl := q h0
    conv => whnf
    refine useDraw (c := c) rfl fun c a ha => ?_
    conv => whnf
    exact ⟨msgFin _ _ _ _ _ _ _ _ _ _ _ _ _ _ _ _ _ _ hp⟩
  conv => whnf
  refine br2 (fun h0 => ?_) (fun h0 => ?_)
  · obtain rfl := q h0
    conv => whnf
    refine useDraw (c := c) rfl fun c a ha => ?_
    conv => whnf
    exact ⟨msgFin _ _ _ _ _ _ _ _ _ _ _ _ _ _ _ _ _ _ hp⟩
  conv => whnf
  refine br2 (fun h0 => ?_) (fun h0 => ?_)
  · obtain rfl := q h0
    conv => whnf
    refine useDraw (c := c) rfl fun c a ha => ?_
    conv => whnf
    refine useBelow (c := c) (n := 3) rfl (by decide) fun c i i1 i2 _ => ?_
    replace i2 : i < 3 := i2 (by decide)
    conv => whnf
    refine ⟨i1, i2, ?_⟩
    conv => whnf
    refine exInt (by simp [intEls, ha.1, ha.2]; rfl) (show i.toNat < 3 by omega) fun s _ _ => ?_
    conv => whnf
    exact ⟨msgFin _ _ _ _ _ _ _ _ _ _ _ _ _ _ _ _ _ _ hp⟩
  conv => whnf
  refine br2 (fun h0 => ?_) (fun h0 => ?_)
  · obtain rfl := q h0
    conv => whnf
    refine useDraw (c := c) rfl fun c a ha => ?_
    conv => whnf
    refine useBelow (c := c) (n := 4) rfl (by decide) fun c i i1 i2 _ => ?_
    replace i2 : i < 4 := i2 (by decide)
    conv => whnf
    refine ⟨i1, i2, ?_⟩
    conv => whnf
    refine exInt (by simp [intEls, ha.1, ha.2]; rfl) (show i.toNat < 4 by omega) fun s _ _ => ?_
    conv => whnf
    exact ⟨msgFin _ _ _ _ _ _ _ _ _ _ _ _ _ _ _ _ _ _ hp⟩
  conv => whnf
  refine br2 (fun h0 => ?_) (fun h0 => ?_)
  · obtain rfl := q h0
    conv => whnf
    refine useDraw (c := c) rfl fun c a ha => ?_
    conv => whnf
    exact ⟨msgFin _ _ _ _ _ _ _ _ _ _ _ _ _ _ _ _ _ _ hp⟩
  conv => whnf
  refine br2 (fun h0 => ?_) (fun h0 => ?_)
  · obtain rfl := q h0
    conv => whnf
    refine useBelow (c := c) (n := 3) rfl (by decide) fun c i i1 i2 _ => ?_
    replace i2 : i < 3 := i2 (by decide)
    conv => whnf
    refine ⟨i1, i2, ?_⟩
    conv => whnf
    refine exInt rfl (show i.toNat < 3 by omega) fun s _ _ => ?_
    conv => whnf
    exact ⟨msgFin _ _ _ _ _ _ _ _ _ _ _ _ _ _ _ _ _ _ hp⟩
  conv => whnf
  refine br2 (fun h0 => ?_) (fun h0 => ?_)
  · obtain rfl := q h0
    conv => whnf
    repeat (refine rc_i rfl ?_; conv => whnf)
    refine useDraw (c := c) rfl fun c s _ => ?_
    conv => whnf
    repeat (refine rc_i rfl ?_; conv => whnf)
    refine ⟨[⟨s, ⟨#[]⟩⟩], rfl, (show ps.length + 1 ≤ 4294967296 by omega), ?_⟩
    conv => whnf
    repeat (refine rc_i rfl ?_; conv => whnf)
    exact ⟨msgFin _ _ _ _ _ _ _ _ _ _ _ _ _ _ _ _ _ _ (show (ps ++ [(⟨s, ⟨#[]⟩⟩ : RngX)]).length ≤ 100 by simp; omega)⟩
  conv => whnf
  refine br2 (fun h0 => ?_) (fun h0 => ?_)
  · obtain rfl := q h0
    conv => whnf
    exact ⟨msgFin _ _ _ _ _ _ _ _ _ _ _ _ _ _ _ _ _ _ hp⟩
  conv => whnf
  refine br2 (fun h0 => ?_) (fun h0 => ?_)
  · obtain rfl := q h0
    conv => whnf
    refine useDraw (c := c) rfl fun c a ha => ?_
    conv => whnf
    exact ⟨msgFin _ _ _ _ _ _ _ _ _ _ _ _ _ _ _ _ _ _ hp⟩
  conv => whnf
  exact ⟨msgFin _ _ _ _ _ _ _ _ _ _ _ _ _ _ _ _ _ _ hp⟩
theorem l09Any_ok : FnOk Try.prog 108 (cDraw true msgE (msgP 100)) := fnOk_of fun x => fnX_at tab_ok (SOk.cons l01Below_ok (SOk.cons l01Raw_ok (SOk.cons l07AnyTx_ok (SOk.cons l09AnyAsk_ok (SOk.cons l09Msg_ok (SOk.cons l02AnyKey_ok SOk.nil)))))) mixed (fn := Try.f108) (code := body Try.f108) ⟨Try.func108, rfl, by kernel_rfl, by kernel_rfl, by kernel_rfl, by kernel_rfl⟩ (ev_l09Any x)
end Go.Vm
namespace Go.Vm
open Go.Proofs
set_option maxRecDepth 100000
set_option linter.unusedVariables false
set_option linter.unusedSimpArgs false

def ask0 : AskX := ⟨0, ⟨#[]⟩, ⟨#[]⟩, rng0, 0, false⟩
def MsgOkP (x : MsgX) : Prop :=
  txOkB x.tx = true ∧ 0 ≤ x.sh ∧ x.sh ≤ 3 ∧ 1 ≤ x.k ∧ x.k ≤ 7 ∧
  (if x.k = 1 ∨ x.k = 2 ∨ x.k = 3 then 1 ≤ x.num ∧ x.num ≤ 16 else x.num = 0) ∧
  (if x.k = 1 then askOkB x.ask = true else x.ask = ask0) ∧
  (if x.k = 2 then 0 ≤ x.code ∧ x.code ≤ 9 ∧ x.ps.length ≤ 8 else x.code = 0 ∧ x.ps = []) ∧ x.ps.all pairOkB = true ∧
  (if x.k = 3 ∨ (x.k = 2 ∧ x.code = 0) then 1 ≤ x.st ∧ x.st ≤ 1099511627775 else x.st = 0) ∧ (x.yes = true → x.k = 4 ∨ x.k = 5)
def cMsgOk : Con := relC MsgX [(.rd, true)] [false] (fun x => [x.ds]) (fun x r => ∃ b : Bool, r = [[.lf (.bool b)]] ∧ (b = true ↔ MsgOkP x))
theorem tellOk_no {k : Int} {x : TxX} {s m st : Int} {a : AskX} {c : Int} {p : List RngX} {t : Bool} : tellOkB ⟨k, x, s, m, st, a, c, p, t⟩ = false ↔ ¬ (p.length ≤ 8 ∧ p.all pairOkB = true ∧
    ((c = 0 ∧ 1 ≤ st ∧ st ≤ 1099511627775) ∨ (c ≠ 0 ∧ 1 ≤ c ∧ c ≤ 9 ∧ st = 0))) := by
  rw [← tellOk_iff (k := k) (x := x) (s := s) (m := m) (a := a) (t := t)]; simp
theorem no_iff {p : Prop} (h : ¬ p) : false = true ↔ p := ⟨(fun h => by cases h), fun x => absurd x h⟩
theorem ev_iMsgOk : ∀ x, evFnX tab [(158, cTxOk), (164, cWithin), (165, cAskOk), (166, (pureC MsgX [(.rd, true)] [false] (fun x => [x.ds]) (fun x => [[.lf (.bool (tellOkB x))]]))), (167, (cEq MsgX.ds))] cMsgOk Try.f96 (body Try.f96) x := by
  rintro ⟨k, x, s, m, st, a, c, p, t⟩
  repeat' ((conv => whnf); first
    | refine br2 (fun h => ?_) (fun h => ?_)
    | refine rc_i rfl ?_
    | (refine ⟨x, rfl, ?_⟩; rintro _ _ ⟨rfl, rfl⟩)
    | (refine ⟨⟨m, 1, 16⟩, rfl, ?_⟩; rintro _ _ ⟨rfl, rfl⟩)
    | (refine ⟨⟨st, 1, 1099511627775⟩, rfl, ?_⟩; rintro _ _ ⟨rfl, rfl⟩)
    | (refine ⟨⟨s, 0, 3⟩, rfl, ?_⟩; rintro _ _ ⟨rfl, rfl⟩)
    | (refine ⟨a, rfl, ?_⟩; rintro _ _ ⟨rfl, rfl⟩)
    | (refine ⟨⟨k, x, s, m, st, a, c, p, t⟩, rfl, ?_⟩; rintro _ _ ⟨rfl, rfl⟩)
    | refine ⟨2, RngX, RngX.ds, fun _ => rfl, ?_⟩
    | (refine ⟨(⟨k, x, s, m, st, a, c, p, t⟩, ⟨k, x, s, m, 0, a, 0, [], false⟩), rfl, ?_⟩; rintro _ _ ⟨rfl, rfl⟩)
    | (refine ⟨(⟨k, x, s, m, st, a, c, p, t⟩, ⟨k, x, s, m, st, ask0, c, p, false⟩), rfl, ?_⟩; rintro _ _ ⟨rfl, rfl⟩)
    | (refine ⟨(⟨k, x, s, m, st, a, c, p, t⟩, ⟨k, x, s, m, st, ask0, 0, [], false⟩), rfl, ?_⟩; rintro _ _ ⟨rfl, rfl⟩)
    | (refine ⟨(⟨k, x, s, m, st, a, c, p, t⟩, ⟨k, x, s, 0, 0, ask0, 0, [], t⟩), rfl, ?_⟩; rintro _ _ ⟨rfl, rfl⟩)
    | (refine ⟨(⟨k, x, s, m, st, a, c, p, t⟩, ⟨k, x, s, 0, 0, ask0, 0, [], false⟩), rfl, ?_⟩; rintro _ _ ⟨rfl, rfl⟩))
  all_goals (conv => whnf)
  all_goals refine ⟨⟨rfl, _, rfl, ?_⟩⟩
  all_goals first
    | (have hT : tellOkB ⟨k, x, s, m, st, a, c, p, t⟩ = false := by assumption
       refine no_iff fun ⟨_, _, _, _, _, _, _, h8, h9, h10, _⟩ => ?_
       have hk : (k == 2) = true := by assumption
       rw [beq_iff_eq] at hk
       subst hk
       replace h8 : if (2 : Int) = 2 then 0 ≤ c ∧ c ≤ 9 ∧ p.length ≤ 8 else c = 0 ∧ p = [] := h8
       replace h10 : if (2 : Int) = 3 ∨ ((2 : Int) = 2 ∧ c = 0) then 1 ≤ st ∧ st ≤ 1099511627775 else st = 0 := h10
       rw [if_pos rfl] at h8
       refine absurd (tellOk_iff.2 ⟨h8.2.2, h9, ?_⟩) (by rw [hT]; simp)
       by_cases hc : c = 0
       · rw [if_pos (by simp [hc])] at h10
         exact .inl ⟨hc, h10⟩
       · rw [if_neg (by simp [hc])] at h10
         exact .inr ⟨hc, by omega, by omega, h10⟩)
    | refine no_iff fun hh => ?_
    | refine ⟨fun hh => ?_, fun hh => ?_⟩
  all_goals simp only [MsgOkP, Bool.and_eq_false_iff, decide_eq_false_iff_not, Int.not_le] at *
  all_goals simp_all [eqX_iff, eqX_no, tellOk_iff, tellOk_no, -List.all_eq_true, -List.all_eq_false]
  all_goals try omega
  all_goals try (split at hh <;> simp_all <;> omega)
  all_goals try (refine ⟨by omega, ?_⟩; split <;> omega)
theorem iMsgOk_ok : FnOk Try.prog 96 cMsgOk := fnOk_of fun x => fnX_at tab_ok (SOk.cons iTxOk_ok (SOk.cons within_ok (SOk.cons iAskOk_ok (SOk.cons tellOk_ok (SOk.cons sameMsg_ok SOk.nil))))) mixed (fn := Try.f96) (code := body Try.f96) ⟨Try.func96, rfl, by kernel_rfl, by kernel_rfl, by kernel_rfl, by kernel_rfl⟩ (ev_iMsgOk x)
end Go.Vm
namespace Go.Vm
open Go.Proofs
set_option maxRecDepth 100000
set_option linter.unusedVariables false
set_option linter.unusedSimpArgs false

/-- A record's bytes. -/
def recB (r : RecX) : List UInt8 :=
  if r.kind = 1 then 119 :: (encT r.key ++ encT r.val)
  else if r.kind = 2 then 103 :: encT r.key
  else if r.kind = 3 then 115 :: (encT r.lo ++ encT r.hi)
  else 120 :: (encT r.lo ++ encT r.hi)
def recT (r : RecX) : ByteArray := if recOkB r then ofB (recB r) else ⟨#[]⟩
def cRecText : Con := pureC RecX [(.rd, true)] [false] (fun r => [r.ds]) (fun r => [[.lf (.string (recT r))]])

theorem recOk_1 {r : RecX} (h : recOkB r = true) (h1 : r.kind = 1) : r.key.size ≤ 8 ∧ r.val.size ≤ 20 := by
  simp [recOkB, h1, userOkB, uvalOkB] at h; omega
theorem recOk_2 {r : RecX} (h : recOkB r = true) (h1 : r.kind = 2) : r.key.size ≤ 8 := by
  simp [recOkB, h1, userOkB] at h; omega
theorem recOk_34 {r : RecX} (h : recOkB r = true) (h1 : ¬ r.kind = 1) (h2 : ¬ r.kind = 2) : (r.kind = 3 ∨ r.kind = 4) ∧ r.lo.size ≤ 9 ∧ r.hi.size ≤ 9 := by
  simp only [recOkB, if_neg h1, if_neg h2] at h
  split at h
  · rename_i h3
    simp [reachOkB] at h
    exact ⟨h3, by omega, by omega⟩
  · cases h

theorem ev_iRecText : ∀ x, evFn tab [(161, cRecOk), (98, cText)] cRecText Try.f85 (body Try.f85) x := by
  rintro ⟨kind, key, val, lo, hi⟩
  conv => whnf
  refine ⟨⟨kind, key, val, lo, hi⟩, rfl, ?_⟩
  rintro _ _ ⟨rfl, rfl⟩
  conv => whnf
  refine br2 (fun h1 => ?_) (fun h1 => ?_)
  · conv => whnf
    refine ⟨⟨rfl, ?_⟩⟩
    have h1' : recOkB ⟨kind, key, val, lo, hi⟩ = false := by simpa using h1
    show _ = [[D.lf (.string (recT ⟨kind, key, val, lo, hi⟩))]]
    simp [recT, h1']
  have h1' : recOkB ⟨kind, key, val, lo, hi⟩ = true := by simpa using h1
  conv => whnf
  refine br2 (fun h2 => ?_) (fun h2 => ?_)
  · have h2' : kind = 1 := by simpa using h2
    obtain ⟨q1, q2⟩ : key.size ≤ 8 ∧ val.size ≤ 20 := recOk_1 h1' h2'
    conv => whnf
    repeat (refine ⟨rfl, ?_⟩; conv => whnf)
    refine ⟨UInt8, encB, [119], encB_len, rfl, ?_⟩
    conv => whnf
    refine ⟨⟨[119], key, by simp, by omega⟩, rfl, ?_⟩
    rintro _ _ ⟨rfl, rfl⟩
    conv => whnf
    repeat (refine ⟨rfl, ?_⟩; conv => whnf)
    refine ⟨⟨[119] ++ encT key, val, ?_, by omega⟩, rfl, ?_⟩
    · have := varB_len (n := key.size) (by omega)
      simp [encT, bs_len]; omega
    rintro _ _ ⟨rfl, rfl⟩
    conv => whnf
    repeat (refine ⟨rfl, ?_⟩; conv => whnf)
    refine ⟨[119] ++ encT key ++ encT val, rfl, ?_⟩
    conv => whnf
    repeat (refine ⟨rfl, ?_⟩; conv => whnf)
    show [[D.lf (.string (ofB ([119] ++ encT key ++ encT val)))]] = [[D.lf (.string (recT ⟨kind, key, val, lo, hi⟩))]]
    rw [show recT ⟨kind, key, val, lo, hi⟩ = ofB (recB ⟨kind, key, val, lo, hi⟩) from if_pos h1']
    simp [recB, h2']
  have h2' : ¬ kind = 1 := by simpa using h2
  conv => whnf
  refine br2 (fun h3 => ?_) (fun h3 => ?_)
  · have h3' : kind = 2 := by simpa using h3
    have q1 : key.size ≤ 8 := recOk_2 h1' h3'
    conv => whnf
    refine ⟨UInt8, encB, [103], encB_len, rfl, ?_⟩
    conv => whnf
    refine ⟨⟨[103], key, by simp, by omega⟩, rfl, ?_⟩
    rintro _ _ ⟨rfl, rfl⟩
    conv => whnf
    refine ⟨[103] ++ encT key, rfl, ?_⟩
    conv => whnf
    refine ⟨⟨rfl, ?_⟩⟩
    show [[D.lf (.string (ofB ([103] ++ encT key)))]] = [[D.lf (.string (recT ⟨kind, key, val, lo, hi⟩))]]
    rw [show recT ⟨kind, key, val, lo, hi⟩ = ofB (recB ⟨kind, key, val, lo, hi⟩) from if_pos h1']
    simp [recB, h3']
  have h3' : ¬ kind = 2 := by simpa using h3
  obtain ⟨q0, q1, q2⟩ : (kind = 3 ∨ kind = 4) ∧ lo.size ≤ 9 ∧ hi.size ≤ 9 := recOk_34 h1' h2' h3'
  conv => whnf
  refine br2 (fun h4 => ?_) (fun h4 => ?_)
  · have h4' : kind = 3 := by simpa using h4
    conv => whnf
    repeat (refine ⟨rfl, ?_⟩; conv => whnf)
    refine ⟨UInt8, encB, [115], encB_len, rfl, ?_⟩
    conv => whnf
    refine ⟨⟨[115], lo, by simp, by omega⟩, rfl, ?_⟩
    rintro _ _ ⟨rfl, rfl⟩
    conv => whnf
    repeat (refine ⟨rfl, ?_⟩; conv => whnf)
    refine ⟨⟨[115] ++ encT lo, hi, ?_, by omega⟩, rfl, ?_⟩
    · have := varB_len (n := lo.size) (by omega)
      simp [encT, bs_len]; omega
    rintro _ _ ⟨rfl, rfl⟩
    conv => whnf
    repeat (refine ⟨rfl, ?_⟩; conv => whnf)
    refine ⟨[115] ++ encT lo ++ encT hi, rfl, ?_⟩
    conv => whnf
    repeat (refine ⟨rfl, ?_⟩; conv => whnf)
    show [[D.lf (.string (ofB ([115] ++ encT lo ++ encT hi)))]] = [[D.lf (.string (recT ⟨kind, key, val, lo, hi⟩))]]
    rw [show recT ⟨kind, key, val, lo, hi⟩ = ofB (recB ⟨kind, key, val, lo, hi⟩) from if_pos h1']
    simp [recB, h4']
  have h4' : ¬ kind = 3 := by simpa using h4
  conv => whnf
  repeat (refine ⟨rfl, ?_⟩; conv => whnf)
  refine ⟨UInt8, encB, [120], encB_len, rfl, ?_⟩
  conv => whnf
  refine ⟨⟨[120], lo, by simp, by omega⟩, rfl, ?_⟩
  rintro _ _ ⟨rfl, rfl⟩
  conv => whnf
  repeat (refine ⟨rfl, ?_⟩; conv => whnf)
  refine ⟨⟨[120] ++ encT lo, hi, ?_, by omega⟩, rfl, ?_⟩
  · have := varB_len (n := lo.size) (by omega)
    simp [encT, bs_len]; omega
  rintro _ _ ⟨rfl, rfl⟩
  conv => whnf
  repeat (refine ⟨rfl, ?_⟩; conv => whnf)
  refine ⟨[120] ++ encT lo ++ encT hi, rfl, ?_⟩
  conv => whnf
  repeat (refine ⟨rfl, ?_⟩; conv => whnf)
  show [[D.lf (.string (ofB ([120] ++ encT lo ++ encT hi)))]] = [[D.lf (.string (recT ⟨kind, key, val, lo, hi⟩))]]
  rw [show recT ⟨kind, key, val, lo, hi⟩ = ofB (recB ⟨kind, key, val, lo, hi⟩) from if_pos h1']
  simp [recB, h2', h3', h4']
theorem iRecText_ok : FnOk Try.prog 85 cRecText := fnOk_of fun x => fn_at tab_ok (SOk.cons iRecOk_ok (SOk.cons iText_ok SOk.nil)) mixed (fn := Try.f85) (code := body Try.f85) ⟨Try.func85, rfl, by kernel_rfl, by kernel_rfl, by kernel_rfl, by kernel_rfl⟩ (ev_iRecText x)
end Go.Vm
namespace Go.Vm
open Go.Proofs
set_option maxRecDepth 100000
set_option linter.unusedVariables false
set_option linter.unusedSimpArgs false

theorem encT_len (s : ByteArray) : (encT s).length = (varB s.size).length + s.size := by simp [encT, bs_len]
theorem putTL_eq {l : List UInt8} {s : ByteArray} (h : l.length + s.size ≤ 4000) : putTL l s = l ++ encT s := by
  have := varB_len (n := s.size) (by omega)
  unfold putTL putTB
  rw [if_pos (decide_eq_true (by rw [encT_len]; omega))]
theorem recOk_kind {r : RecX} (h : recOkB r = true) : r.kind = 1 ∨ r.kind = 2 ∨ r.kind = 3 ∨ r.kind = 4 := by
  by_cases h1 : r.kind = 1
  · exact .inl h1
  · by_cases h2 : r.kind = 2
    · exact .inr (.inl h2)
    · rcases (recOk_34 h h1 h2).1 with h3 | h3
      · exact .inr (.inr (.inl h3))
      · exact .inr (.inr (.inr h3))

theorem ev_sRecText : ∀ x, evFn tab [(156, cRecOk), (93, cPutText)] cRecText Try.f77 (body Try.f77) x := by
  rintro ⟨kind, key, val, lo, hi⟩
  conv => whnf
  refine ⟨⟨kind, key, val, lo, hi⟩, rfl, ?_⟩
  rintro _ _ ⟨rfl, rfl⟩
  conv => whnf
  refine br2 (fun h1 => ?_) (fun h1 => ?_)
  · conv => whnf
    refine ⟨⟨rfl, ?_⟩⟩
    have h1' : recOkB ⟨kind, key, val, lo, hi⟩ = false := by simpa using h1
    show _ = [[D.lf (.string (recT ⟨kind, key, val, lo, hi⟩))]]
    simp [recT, h1']
  have h1' : recOkB ⟨kind, key, val, lo, hi⟩ = true := by simpa using h1
  rcases (recOk_kind h1' : kind = 1 ∨ kind = 2 ∨ kind = 3 ∨ kind = 4) with rfl | rfl | rfl | rfl
  · obtain ⟨q1, q2⟩ : key.size ≤ 8 ∧ val.size ≤ 20 := recOk_1 h1' rfl
    have e1 : putTL [119] key = [119] ++ encT key := putTL_eq (by simp; omega)
    have l1 := varB_len (n := key.size) (by omega)
    have e2 : putTL ([119] ++ encT key) val = [119] ++ encT key ++ encT val := putTL_eq (by simp [encT_len]; omega)
    conv => whnf
    refine ⟨(by show (0 : Int) ≤ 1; decide), (by show (1 : Int) < 5; decide), ?_⟩
    conv => whnf
    refine ⟨UInt8, encB, [119], encB_len, rfl, ?_⟩
    conv => whnf
    refine ⟨⟨[119], key, by simp, by omega⟩, rfl, ?_⟩
    rintro _ _ ⟨rfl, rfl⟩
    conv => whnf
    refine ⟨⟨putTL [119] key, val, by rw [e1]; simp [encT_len]; omega, by omega⟩, rfl, ?_⟩
    rintro _ _ ⟨rfl, rfl⟩
    conv => whnf
    refine ⟨putTL (putTL [119] key) val, rfl, ?_⟩
    conv => whnf
    refine ⟨⟨rfl, ?_⟩⟩
    show [[D.lf (.string (ofB (putTL (putTL [119] key) val)))]] = [[D.lf (.string (recT ⟨1, key, val, lo, hi⟩))]]
    rw [e1, e2, show recT ⟨1, key, val, lo, hi⟩ = ofB (recB ⟨1, key, val, lo, hi⟩) from if_pos h1']
    simp [recB]
  · have q1 : key.size ≤ 8 := recOk_2 h1' rfl
    have e1 : putTL [103] key = [103] ++ encT key := putTL_eq (by simp; omega)
    conv => whnf
    refine ⟨(by show (0 : Int) ≤ 2; decide), (by show (2 : Int) < 5; decide), ?_⟩
    conv => whnf
    refine ⟨UInt8, encB, [103], encB_len, rfl, ?_⟩
    conv => whnf
    refine ⟨⟨[103], key, by simp, by omega⟩, rfl, ?_⟩
    rintro _ _ ⟨rfl, rfl⟩
    conv => whnf
    refine ⟨putTL [103] key, rfl, ?_⟩
    conv => whnf
    refine ⟨⟨rfl, ?_⟩⟩
    show [[D.lf (.string (ofB (putTL [103] key)))]] = [[D.lf (.string (recT ⟨2, key, val, lo, hi⟩))]]
    rw [e1, show recT ⟨2, key, val, lo, hi⟩ = ofB (recB ⟨2, key, val, lo, hi⟩) from if_pos h1']
    simp [recB]
  · obtain ⟨_, q1, q2⟩ : (_ ∨ _) ∧ lo.size ≤ 9 ∧ hi.size ≤ 9 := recOk_34 h1' (by simp) (by simp)
    have e1 : putTL [115] lo = [115] ++ encT lo := putTL_eq (by simp; omega)
    have l1 := varB_len (n := lo.size) (by omega)
    have e2 : putTL ([115] ++ encT lo) hi = [115] ++ encT lo ++ encT hi := putTL_eq (by simp [encT_len]; omega)
    conv => whnf
    refine ⟨(by show (0 : Int) ≤ 3; decide), (by show (3 : Int) < 5; decide), ?_⟩
    conv => whnf
    refine ⟨UInt8, encB, [115], encB_len, rfl, ?_⟩
    conv => whnf
    refine ⟨⟨[115], lo, by simp, by omega⟩, rfl, ?_⟩
    rintro _ _ ⟨rfl, rfl⟩
    conv => whnf
    refine ⟨⟨putTL [115] lo, hi, by rw [e1]; simp [encT_len]; omega, by omega⟩, rfl, ?_⟩
    rintro _ _ ⟨rfl, rfl⟩
    conv => whnf
    refine ⟨putTL (putTL [115] lo) hi, rfl, ?_⟩
    conv => whnf
    refine ⟨⟨rfl, ?_⟩⟩
    show [[D.lf (.string (ofB (putTL (putTL [115] lo) hi)))]] = [[D.lf (.string (recT ⟨3, key, val, lo, hi⟩))]]
    rw [e1, e2, show recT ⟨3, key, val, lo, hi⟩ = ofB (recB ⟨3, key, val, lo, hi⟩) from if_pos h1']
    simp [recB]
  · obtain ⟨_, q1, q2⟩ : (_ ∨ _) ∧ lo.size ≤ 9 ∧ hi.size ≤ 9 := recOk_34 h1' (by simp) (by simp)
    have e1 : putTL [120] lo = [120] ++ encT lo := putTL_eq (by simp; omega)
    have l1 := varB_len (n := lo.size) (by omega)
    have e2 : putTL ([120] ++ encT lo) hi = [120] ++ encT lo ++ encT hi := putTL_eq (by simp [encT_len]; omega)
    conv => whnf
    refine ⟨(by show (0 : Int) ≤ 4; decide), (by show (4 : Int) < 5; decide), ?_⟩
    conv => whnf
    refine ⟨UInt8, encB, [120], encB_len, rfl, ?_⟩
    conv => whnf
    refine ⟨⟨[120], lo, by simp, by omega⟩, rfl, ?_⟩
    rintro _ _ ⟨rfl, rfl⟩
    conv => whnf
    refine ⟨⟨putTL [120] lo, hi, by rw [e1]; simp [encT_len]; omega, by omega⟩, rfl, ?_⟩
    rintro _ _ ⟨rfl, rfl⟩
    conv => whnf
    refine ⟨putTL (putTL [120] lo) hi, rfl, ?_⟩
    conv => whnf
    refine ⟨⟨rfl, ?_⟩⟩
    show [[D.lf (.string (ofB (putTL (putTL [120] lo) hi)))]] = [[D.lf (.string (recT ⟨4, key, val, lo, hi⟩))]]
    rw [e1, e2, show recT ⟨4, key, val, lo, hi⟩ = ofB (recB ⟨4, key, val, lo, hi⟩) from if_pos h1']
    simp [recB]
theorem sRecText_ok : FnOk Try.prog 77 cRecText := fnOk_of fun x => fn_at tab_ok (SOk.cons sRecOk_ok (SOk.cons sPutText_ok SOk.nil)) mixed (fn := Try.f77) (code := body Try.f77) ⟨Try.func77, rfl, by kernel_rfl, by kernel_rfl, by kernel_rfl, by kernel_rfl⟩ (ev_sRecText x)

/-! The scanner -/
structure ScanX where
  l : List UInt8
  a : Int
  bad : Bool
  hl : l.length ≤ 4294967296
  h1 : -9223372036854775808 ≤ a
  h2 : a ≤ 9223372036854775807
def scanD (l : List UInt8) (a : Int) (bad : Bool) : List (List D) := [[.box [.row 1 encB l, .lf (.int .i64 a), .lf (.bool bad)]]]
/-- What the scanner does where a text is read. -/
structure ScanT (l : List UInt8) (a : Int) (bad : Bool) (t : ByteArray) (a' : Int) (bad' : Bool) : Prop where
  lo : -9223372036854775808 ≤ a'
  hi : a' ≤ 9223372036854775807
  got : ∀ (pre : List UInt8) (u : ByteArray) (post : List UInt8), bad = false → l = pre ++ encT u ++ post → a = pre.length → u.size ≤ 1099511627775 → t = u ∧ a' = pre.length + (encT u).length ∧ bad' = false
def cScanText : Con := { X := ScanX, params := [(.mut, false)], res := [false], resOwn := true, ins := (fun x => scanD x.l x.a x.bad), post := fun x outs r => ∃ t a' bad', outs = scanD x.l a' bad' ∧ r = [[.lf (.string t)]] ∧ ScanT x.l x.a x.bad t a' bad' }
theorem ev_scanText : ∀ x, evFn tab [(170, cGetText)] cScanText Try.f105 (body Try.f105) x := by
  rintro ⟨l, a, bad, hl, h1, h2⟩
  conv => whnf
  refine ⟨⟨l, a, hl, h1, h2⟩, rfl, ?_⟩
  rintro _ _ ⟨rfl, t, nx, rfl, hG⟩
  have hG0 : nx = -1 ∧ t = ⟨#[]⟩ ∨ 0 ≤ a ∧ a < nx ∧ nx ≤ l.length ∧ t.size ≤ l.length := hG.1
  conv => whnf
  repeat (refine ⟨rfl, ?_⟩; conv => whnf)
  cases bad with
  | true =>
    conv => whnf
    refine ⟨⟨⟨#[]⟩, a, true, rfl, rfl, h1, h2, fun pre u post h => by cases h⟩⟩
  | false =>
    conv => whnf
    refine br2 (fun h3 => ?_) (fun h3 => ?_)
    · have h3' := of_decide_eq_true h3
      conv => whnf
      refine ⟨⟨⟨#[]⟩, a, true, rfl, rfl, h1, h2, fun pre u post _ e1 e2 e3 => ?_⟩⟩
      obtain ⟨_, e5⟩ := hG.2 pre u post e1 e2 e3
      omega
    · have h3' := of_decide_eq_false h3
      conv => whnf
      refine ⟨⟨t, nx, false, rfl, rfl, by omega, by omega, fun pre u post _ e1 e2 e3 => ?_⟩⟩
      obtain ⟨e4, e5⟩ := hG.2 pre u post e1 e2 e3
      exact ⟨e4, e5, rfl⟩
theorem scanText_ok : FnOk Try.prog 105 cScanText := fnOk_of fun x => fn_at tab_ok (SOk.cons iGetText_ok SOk.nil) mixed (fn := Try.f105) (code := body Try.f105) ⟨Try.func105, rfl, by kernel_rfl, by kernel_rfl, by kernel_rfl, by kernel_rfl⟩ (ev_scanText x)
end Go.Vm
namespace Go.Vm
open Go.Proofs
set_option maxRecDepth 100000
set_option linter.unusedVariables false
set_option linter.unusedSimpArgs false

/-! A message's bytes -/
def numsL (l : List Int) : List UInt8 := l.flatMap fun n => varB n.toNat
def txtsL (l : List ByteArray) : List UInt8 := l.flatMap encT
def pairL (p : RngX) : List UInt8 := encT p.lo ++ encT p.hi
def pairsL (l : List RngX) : List UInt8 := l.flatMap pairL
def bitN (b : Bool) : Int := if b then 1 else 0
def MsgX.n8 (x : MsgX) : List Int := [x.k, x.tx.c, x.tx.e, x.tx.n, x.sh, x.num, x.st, x.ask.k]
def MsgX.t4 (x : MsgX) : List ByteArray := [x.ask.u, x.ask.v, x.ask.r.lo, x.ask.r.hi]
def MsgX.n4 (x : MsgX) : List Int := [x.ask.n, bitN x.ask.b, x.code, (x.ps.length : Int)]
def msgL (x : MsgX) : List UInt8 := numsL x.n8 ++ txtsL x.t4 ++ numsL x.n4 ++ pairsL x.ps ++ varB (bitN x.yes).toNat
def NumP (n : Int) : Prop := 0 ≤ n ∧ n ≤ 1099511627775
structure MsgF (x : MsgX) : Prop where
  n8 : ∀ n ∈ x.n8, NumP n
  t4 : ∀ t ∈ x.t4, t.size ≤ 20
  n4 : ∀ n ∈ x.n4, NumP n
  pl : x.ps.length ≤ 8
  ps : ∀ p ∈ x.ps, p.lo.size ≤ 8 ∧ p.hi.size ≤ 20
theorem txOk_nums {x : TxX} (h : txOkB x = true) : NumP x.c ∧ NumP x.e ∧ NumP x.n := by
  simp [txOkB] at h
  exact ⟨⟨by omega, by omega⟩, ⟨by omega, by omega⟩, by omega, by omega⟩
theorem askOk_f {x : AskX} (h : askOkB x = true) : NumP x.k ∧ NumP x.n ∧ ∀ t ∈ [x.u, x.v, x.r.lo, x.r.hi], t.size ≤ 20 := by
  obtain ⟨k, u, v, ⟨lo, hi⟩, n, b⟩ := x
  simp only [askOkB] at h
  by_cases h4 : k = 4
  · rw [if_pos h4] at h
    simp [emp_iff, reachOkB] at h
    obtain ⟨⟨⟨⟨rfl, rfl⟩, h1⟩, h2⟩, h3⟩ := h
    refine ⟨⟨by show (0 : Int) ≤ k; omega, by show k ≤ 1099511627775; omega⟩, ⟨by show (0 : Int) ≤ n; omega, by show n ≤ 1099511627775; omega⟩, ?_⟩
    simp
    exact ⟨by decide, by omega, by omega⟩
  · rw [if_neg h4] at h
    by_cases h5 : k = 1 ∨ k = 3
    · rw [if_pos h5] at h
      simp [emp_iff, userOkB] at h
      obtain ⟨⟨⟨⟨⟨h1, rfl⟩, rfl⟩, rfl⟩, rfl⟩, h2⟩ := h
      refine ⟨⟨by show (0 : Int) ≤ k; omega, by show k ≤ 1099511627775; omega⟩, ⟨Int.le_refl 0, (show (0 : Int) ≤ 1099511627775 by decide)⟩, ?_⟩
      simp
      exact ⟨by omega, by decide⟩
    · rw [if_neg h5] at h
      by_cases h6 : k = 2
      · rw [if_pos h6] at h
        simp [emp_iff, userOkB, uvalOkB] at h
        obtain ⟨⟨⟨⟨⟨h1, h7⟩, rfl⟩, rfl⟩, rfl⟩, h2⟩ := h
        refine ⟨⟨by show (0 : Int) ≤ k; omega, by show k ≤ 1099511627775; omega⟩, ⟨Int.le_refl 0, (show (0 : Int) ≤ 1099511627775 by decide)⟩, ?_⟩
        simp
        exact ⟨by omega, by omega, by decide⟩
      · rw [if_neg h6] at h; cases h
theorem bit_num (b : Bool) : NumP (bitN b) := by cases b <;> exact ⟨by decide, by decide⟩
theorem msg_f {x : MsgX} (h : MsgOkP x) : MsgF x := by
  obtain ⟨h1, h2, h3, h4, h5, h6, h7, h8, h9, h10, h11⟩ := h
  obtain ⟨t1, t2, t3⟩ := txOk_nums h1
  have hk : NumP x.k := ⟨by omega, by omega⟩
  have hs : NumP x.sh := ⟨by omega, by omega⟩
  have hn : NumP x.num := by split at h6 <;> exact ⟨by omega, by omega⟩
  have ht : NumP x.st := by split at h10 <;> exact ⟨by omega, by omega⟩
  have ha : NumP x.ask.k ∧ NumP x.ask.n ∧ ∀ t ∈ [x.ask.u, x.ask.v, x.ask.r.lo, x.ask.r.hi], t.size ≤ 20 := by
    split at h7
    · exact askOk_f h7
    · rw [h7]; exact ⟨⟨Int.le_refl 0, (show (0 : Int) ≤ 1099511627775 by decide)⟩, ⟨Int.le_refl 0, (show (0 : Int) ≤ 1099511627775 by decide)⟩, by simp [ask0, rng0]; decide⟩
  have hc : NumP x.code ∧ x.ps.length ≤ 8 := by
    split at h8
    · exact ⟨⟨h8.1, by omega⟩, h8.2.2⟩
    · rw [h8.1, h8.2]; exact ⟨⟨Int.le_refl 0, (show (0 : Int) ≤ 1099511627775 by decide)⟩, by decide⟩
  refine ⟨?_, ha.2.2, ?_, hc.2, ?_⟩
  · simp only [MsgX.n8, List.mem_cons, List.not_mem_nil, or_false]
    rintro n (rfl | rfl | rfl | rfl | rfl | rfl | rfl | rfl) <;> first | assumption | exact ha.1
  · simp only [MsgX.n4, List.mem_cons, List.not_mem_nil, or_false]
    rintro n (rfl | rfl | rfl | rfl)
    · exact ha.2.1
    · exact bit_num _
    · exact hc.1
    · exact ⟨by omega, by have := hc.2; omega⟩
  · intro p hp
    have := List.all_eq_true.1 h9 p hp
    simp [pairOkB, userOkB, uvalOkB] at this
    omega
theorem numsL_len {l : List Int} (h : ∀ n ∈ l, NumP n) : (numsL l).length ≤ 6 * l.length := by
  induction l with
  | nil => simp [numsL]
  | cons a l ih =>
    have h1 := h a (List.mem_cons_self ..)
    have h2 := varB_len6 (n := a.toNat) (by have := h1.2; omega)
    have h3 := ih fun n hn => h n (List.mem_cons_of_mem _ hn)
    simp only [numsL, List.flatMap_cons, List.length_append, List.length_cons] at *
    omega
theorem encT_le {s : ByteArray} {n : Nat} (h : s.size ≤ n) (hn : n ≤ 1000) : (encT s).length ≤ n + 6 := by
  have := varB_len6 (n := s.size) (by omega)
  rw [encT_len]; omega
theorem txtsL_len {l : List ByteArray} (h : ∀ t ∈ l, t.size ≤ 20) : (txtsL l).length ≤ 26 * l.length := by
  induction l with
  | nil => simp [txtsL]
  | cons a l ih =>
    have h2 := encT_le (h a (List.mem_cons_self ..)) (by omega)
    have h3 := ih fun n hn => h n (List.mem_cons_of_mem _ hn)
    simp only [txtsL, List.flatMap_cons, List.length_append, List.length_cons] at *
    omega
theorem pairsL_len {l : List RngX} (h : ∀ p ∈ l, p.lo.size ≤ 8 ∧ p.hi.size ≤ 20) : (pairsL l).length ≤ 40 * l.length := by
  induction l with
  | nil => simp [pairsL]
  | cons a l ih =>
    obtain ⟨h0, h1⟩ := h a (List.mem_cons_self ..)
    have h4 := encT_le h0 (by omega)
    have h5 := encT_le h1 (by omega)
    have h3 := ih fun n hn => h n (List.mem_cons_of_mem _ hn)
    simp only [pairsL, pairL, List.flatMap_cons, List.length_append, List.length_cons] at *
    omega
theorem numsL_take {l : List Int} {i : Nat} {n : Int} (h : l[i]? = some n) : numsL (l.take (i + 1)) = numsL (l.take i) ++ varB n.toNat := by
  rw [List.take_add_one, h]; simp [numsL]
theorem txtsL_take {l : List ByteArray} {i : Nat} {n : ByteArray} (h : l[i]? = some n) : txtsL (l.take (i + 1)) = txtsL (l.take i) ++ encT n := by
  rw [List.take_add_one, h]; simp [txtsL]
theorem pairsL_take {l : List RngX} {i : Nat} {n : RngX} (h : l[i]? = some n) : pairsL (l.take (i + 1)) = pairsL (l.take i) ++ pairL n := by
  rw [List.take_add_one, h]; simp [pairsL]
theorem numsL_lt {l : List Int} (h : ∀ n ∈ l, NumP n) (i : Nat) : (numsL (l.take i)).length ≤ 6 * l.length := by
  have := numsL_len (l := l.take i) fun n hn => h n (List.mem_of_mem_take hn)
  have h2 : (l.take i).length ≤ l.length := by simp; omega
  omega
theorem txtsL_lt {l : List ByteArray} (h : ∀ t ∈ l, t.size ≤ 20) (i : Nat) : (txtsL (l.take i)).length ≤ 26 * l.length := by
  have := txtsL_len (l := l.take i) fun n hn => h n (List.mem_of_mem_take hn)
  have h2 : (l.take i).length ≤ l.length := by simp; omega
  omega
theorem pairsL_lt {l : List RngX} (h : ∀ p ∈ l, p.lo.size ≤ 8 ∧ p.hi.size ≤ 20) (i : Nat) : (pairsL (l.take i)).length ≤ 40 * l.length := by
  have := pairsL_len (l := l.take i) fun n hn => h n (List.mem_of_mem_take hn)
  have h2 : (l.take i).length ≤ l.length := by simp; omega
  omega
theorem putL_eq {l : List UInt8} {n : Int} (h : NumP n) (hl : l.length ≤ 4000) : putL l n = l ++ varB n.toNat := by
  have h2 := varB_len6 (n := n.toNat) (by have := h.2; omega)
  unfold putL putB numB
  rw [if_pos]
  simp [h.1, h.2]; omega
theorem putB_eq {l : List UInt8} {n : Int} (h : NumP n) (hl : l.length ≤ 4000) : putB l n = true := by
  have h2 := varB_len6 (n := n.toNat) (by have := h.2; omega)
  unfold putB numB
  simp [h.1, h.2]; omega
def encI (n : Int) : List D := [.lf (.int .i64 n)]
def encS (s : ByteArray) : List D := [.lf (.string s)]
theorem useVary {l : List UInt8} {n : Int} {ds : List (List D)} {Q : List (List D) → List (List D) → Prop} (hn : NumP n) (hl : l.length ≤ 4000) (hd : [[.row 1 encB l], [.lf (.int .i64 n)]] = ds)
    (h : Q [] [[.row 1 encB (l ++ varB n.toNat)]]) : ∃ x, cVary.ins x = ds ∧ ∀ outs res, cVary.post x outs res → Q outs res := by
  refine ⟨⟨l, n.toNat, by omega, by have := hn.2; omega⟩, ?_, ?_⟩
  · rw [← hd]
    show [[D.row 1 encB l], [D.lf (.int .i64 (n.toNat : Int))]] = _
    rw [Int.toNat_of_nonneg hn.1]
  · rintro _ _ ⟨rfl, rfl⟩; exact h
theorem useText {l : List UInt8} {s : ByteArray} {ds : List (List D)} {Q : List (List D) → List (List D) → Prop} (hn : s.size ≤ 20) (hl : l.length ≤ 4000) (hd : [[.row 1 encB l], [.lf (.string s)]] = ds)
    (h : Q [] [[.row 1 encB (l ++ encT s)]]) : ∃ x, cText.ins x = ds ∧ ∀ outs res, cText.post x outs res → Q outs res := by
  refine ⟨⟨l, s, by omega, by omega⟩, hd, ?_⟩
  rintro _ _ ⟨rfl, rfl⟩; exact h
theorem usePut {l : List UInt8} {n : Int} {ds : List (List D)} {Q : List (List D) → List (List D) → Prop} (hn : NumP n) (hl : l.length ≤ 4000) (hd : [[.row 1 encB l], [.lf (.int .i64 n)]] = ds)
    (h : Q [] [[.row 1 encB (l ++ varB n.toNat)], [.lf (.bool true)]]) : ∃ x, cPutVar.ins x = ds ∧ ∀ outs res, cPutVar.post x outs res → Q outs res := by
  refine ⟨⟨l, n, by omega, by have := hn.1; omega, by have := hn.2; omega⟩, hd, ?_⟩
  rintro _ _ ⟨rfl, rfl⟩
  show Q [] [[.row 1 encB (putL l n)], [.lf (.bool (putB l n))]]
  rw [putL_eq hn hl, putB_eq hn hl]; exact h
theorem usePutT {l : List UInt8} {s : ByteArray} {ds : List (List D)} {Q : List (List D) → List (List D) → Prop} (hn : s.size ≤ 20) (hl : l.length ≤ 3900) (hd : [[.row 1 encB l], [.lf (.string s)]] = ds)
    (h : Q [] [[.row 1 encB (l ++ encT s)], [.lf (.bool true)]]) : ∃ x, cPutText.ins x = ds ∧ ∀ outs res, cPutText.post x outs res → Q outs res := by
  refine ⟨⟨l, s, by omega, by omega⟩, hd, ?_⟩
  rintro _ _ ⟨rfl, rfl⟩
  show Q [] [[.row 1 encB (putTL l s)], [.lf (.bool (putTB l s))]]
  have h2 := encT_le hn (by omega)
  rw [putTL_eq (by omega), show putTB l s = true from decide_eq_true (by omega)]; exact h
def cMsgBytes : Con := relC MsgX [(.rd, true)] [false, false] (fun x => [x.ds]) (fun x r => ∃ l b, r = [[.row 1 encB l], [.lf (.bool b)]] ∧ (MsgOkP x → b = true ∧ l = msgL x) ∧ (¬ MsgOkP x → b = false ∧ l = []))
end Go.Vm
namespace Go.Vm
open Go.Proofs
set_option maxRecDepth 100000
set_option linter.unusedVariables false
set_option linter.unusedSimpArgs false

/-! A message's parts in their order -/
inductive Fld where
  | n (n : Int)
  | t (t : ByteArray)
def Fld.l : Fld → List UInt8
  | .n x => varB x.toNat
  | .t x => encT x
def MsgX.head (x : MsgX) : List Fld := [.n x.k, .n x.tx.c, .n x.tx.e, .n x.tx.n, .n x.sh, .n x.num, .n x.st, .n x.ask.k, .t x.ask.u, .t x.ask.v, .t x.ask.r.lo, .t x.ask.r.hi, .n x.ask.n, .n (bitN x.ask.b), .n x.code, .n (x.ps.length : Int)]
def MsgX.flds (x : MsgX) : List Fld := x.head ++ (x.ps.flatMap (fun p => [Fld.t p.lo, Fld.t p.hi]) ++ [.n (bitN x.yes)])
def MsgX.pos (x : MsgX) (i : Nat) : Nat := ((x.flds.take i).flatMap Fld.l).length
theorem msgL_flds (x : MsgX) : msgL x = x.flds.flatMap Fld.l := by
  have h : ∀ l : List RngX, pairsL l = (l.flatMap fun p => [Fld.t p.lo, Fld.t p.hi]).flatMap Fld.l := by
    intro l
    induction l with
    | nil => rfl
    | cons a l ih =>
      simp only [pairsL, List.flatMap_cons, List.flatMap_append] at *
      rw [ih]; simp [pairL, Fld.l]
  simp only [msgL, MsgX.flds, MsgX.head, List.flatMap_append, h]
  simp [numsL, txtsL, MsgX.n8, MsgX.t4, MsgX.n4, Fld.l]
theorem pos_succ {x : MsgX} {i : Nat} {f : Fld} (h : x.flds[i]? = some f) : x.pos (i + 1) = x.pos i + f.l.length := by
  unfold MsgX.pos
  rw [List.take_add_one, h]; simp
theorem flds_cut {x : MsgX} {i : Nat} {f : Fld} (h : x.flds[i]? = some f) : msgL x = (x.flds.take i).flatMap Fld.l ++ f.l ++ (x.flds.drop (i + 1)).flatMap Fld.l := by
  have h1 := (List.getElem?_eq_some_iff.1 h).1
  have h2 := (List.getElem?_eq_some_iff.1 h).2
  have e : x.flds = x.flds.take i ++ f :: x.flds.drop (i + 1) := by rw [← h2, ← List.drop_eq_getElem_cons h1, List.take_append_drop]
  have e2 : msgL x = (x.flds.take i ++ f :: x.flds.drop (i + 1)).flatMap Fld.l := by rw [← e, msgL_flds]
  rw [e2]; simp
theorem fld_num {x : MsgX} {b : List UInt8} {i : Nat} {n a v nx : Int} (e : msgL x = b) (h : x.flds[i]? = some (.n n)) (hn : NumP n) (ha : a = x.pos i) (hG : GotN b a v nx) : v = n ∧ nx = x.pos (i + 1) := by
  obtain ⟨e1, e2⟩ := hG.2 _ n.toNat _ (by rw [← e]; exact flds_cut h) ha (by have := hn.2; omega)
  refine ⟨by have := hn.1; omega, ?_⟩
  rw [pos_succ h, e2]; rfl
theorem fld_txt {x : MsgX} {b : List UInt8} {i : Nat} {t : ByteArray} {a nx : Int} {v : ByteArray} (e : msgL x = b) (h : x.flds[i]? = some (.t t)) (hn : t.size ≤ 20) (ha : a = x.pos i) (hG : GotT b a v nx) : v = t ∧ nx = x.pos (i + 1) := by
  obtain ⟨e1, e2⟩ := hG.2 _ t _ (by rw [← e]; exact flds_cut h) ha (by omega)
  refine ⟨e1, ?_⟩
  rw [pos_succ h, e2]; rfl
theorem pair_get (l : List RngX) (t : List Fld) : (∀ (j : Nat) (p : RngX), l[j]? = some p → (l.flatMap (fun p => [Fld.t p.lo, Fld.t p.hi]) ++ t)[2 * j]? = some (.t p.lo) ∧ (l.flatMap (fun p => [Fld.t p.lo, Fld.t p.hi]) ++ t)[2 * j + 1]? = some (.t p.hi)) ∧
    (l.flatMap (fun p => [Fld.t p.lo, Fld.t p.hi]) ++ t)[2 * l.length]? = t[0]? := by
  induction l with
  | nil => exact ⟨fun j p h => by simp at h, by simp⟩
  | cons a l ih =>
    obtain ⟨ih1, ih2⟩ := ih
    refine ⟨fun j p h => ?_, ?_⟩
    · cases j with
      | zero => simp at h; subst h; exact ⟨rfl, rfl⟩
      | succ j => exact ih1 j p (by simpa using h)
    · exact ih2
theorem flds_head {x : MsgX} {i : Nat} {f : Fld} (h : x.head[i]? = some f) : x.flds[i]? = some f := by
  have := (List.getElem?_eq_some_iff.1 h).1
  unfold MsgX.flds
  rw [List.getElem?_append_left this]; exact h
theorem flds_tail (x : MsgX) (i : Nat) : x.flds[16 + i]? = (x.ps.flatMap (fun p => [Fld.t p.lo, Fld.t p.hi]) ++ [.n (bitN x.yes)])[i]? := by
  unfold MsgX.flds
  rw [List.getElem?_append_right (by simp [MsgX.head])]
  simp [MsgX.head]
theorem flds_pair {x : MsgX} {j : Nat} {p : RngX} (h : x.ps[j]? = some p) : x.flds[16 + 2 * j]? = some (.t p.lo) ∧ x.flds[16 + 2 * j + 1]? = some (.t p.hi) := by
  obtain ⟨h1, h2⟩ := (pair_get x.ps [.n (bitN x.yes)]).1 j p h
  exact ⟨by rw [flds_tail]; exact h1, by rw [Nat.add_assoc, flds_tail]; exact h2⟩
theorem flds_last (x : MsgX) : x.flds[16 + 2 * x.ps.length]? = some (.n (bitN x.yes)) := by
  rw [flds_tail, (pair_get x.ps [.n (bitN x.yes)]).2]; rfl
def msg0 : MsgX := ⟨0, ⟨0, 0, 0⟩, 0, 0, 0, ask0, 0, [], false⟩
/-- The message whose bytes these are. -/
structure MsgReadR (b : List UInt8) (x : MsgX) (ok : Bool) : Prop where
  yes : ok = true → MsgOkP x ∧ msgL x = b
  no : ok = false → x = msg0
  all : ∀ q, MsgOkP q → msgL q = b → ok = true ∧ x = q
theorem MsgReadR.same {b : List UInt8} {r r' : MsgX} {ok ok' : Bool} (h : MsgReadR b r ok) (h' : MsgReadR b r' ok') : r = r' ∧ ok = ok' := by
  cases ok with
  | true =>
    obtain ⟨h1, h2⟩ := h.yes rfl
    obtain ⟨h3, h4⟩ := h'.all r h1 h2
    exact ⟨h4.symm, h3.symm⟩
  | false =>
    cases ok' with
    | true =>
      obtain ⟨h1, h2⟩ := h'.yes rfl
      obtain ⟨h3, _⟩ := h.all r' h1 h2
      cases h3
    | false => exact ⟨(h.no rfl).trans (h'.no rfl).symm, rfl⟩
/-- What is written again of what was read. -/
theorem msgRead_end {b l : List UInt8} {x : MsgX} {bad ok : Bool} (h : ∀ q, MsgOkP q → msgL q = b → bad = false ∧ x = q) (h1 : MsgOkP x → ok = true ∧ l = msgL x) (h2 : ¬ MsgOkP x → ok = false ∧ l = []) :
    (bad = true → MsgReadR b msg0 false) ∧ (ok = false → MsgReadR b msg0 false) ∧ (l ≠ b → MsgReadR b msg0 false) ∧ (ok = true → l = b → MsgReadR b x true) := by
  have none : (∀ q, MsgOkP q → msgL q = b → False) → MsgReadR b msg0 false := fun hq => ⟨fun h => (by cases h), fun _ => rfl, fun q e1 e2 => (hq q e1 e2).elim⟩
  refine ⟨fun e => none fun q e1 e2 => ?_, fun e => none fun q e1 e2 => ?_, fun e => none fun q e1 e2 => ?_, fun e e0 => ⟨fun _ => ?_, fun e => (by cases e), fun q e1 e2 => ⟨rfl, (h q e1 e2).2⟩⟩⟩
  · rw [(h q e1 e2).1] at e; cases e
  · obtain rfl := (h q e1 e2).2
    rw [(h1 e1).1] at e; cases e
  · obtain rfl := (h q e1 e2).2
    exact e ((h1 e1).2.trans e2)
  · by_cases hx : MsgOkP x
    · exact ⟨hx, (h1 hx).2.symm.trans e0⟩
    · rw [(h2 hx).1] at e; cases e
theorem bitN_one (b : Bool) : (bitN b == 1) = b := by cases b <;> rfl
structure BytesX where
  l : List UInt8
  hl : l.length ≤ 1048576
def cMsgRead : Con := relC BytesX [(.rd, false)] [true, false] (fun x => [[.row 1 encB x.l]]) (fun x r => ∃ q ok, r = [q.ds, [.lf (.bool ok)]] ∧ MsgReadR x.l q ok)
end Go.Vm
namespace Go.Vm
open Go.Proofs
set_option maxRecDepth 100000
set_option maxHeartbeats 4000000
set_option linter.unusedVariables false
set_option linter.unusedSimpArgs false

structure IntX where
  n : Int
theorem ev_sNumOk : ∀ x, evFnX tab [] (pureC IntX [(.rd, false)] [false] (fun x => [[.lf (.int .i64 x.n)]]) (fun x => [[.lf (.bool (decide (1 ≤ x.n) && decide (x.n ≤ 16)))]])) Try.f110 (body Try.f110) x := by
  rintro ⟨n⟩
  repeat' ((conv => whnf); refine br2 (fun h => ?_) (fun h => ?_))
  all_goals (conv => whnf)
  all_goals refine ⟨⟨rfl, ?_⟩⟩
  · show _ = [[D.lf (.bool (decide (1 ≤ n) && decide (n ≤ 16)))]]
    rw [show decide (1 ≤ n) = true from h, Bool.true_and]
  · show _ = [[D.lf (.bool (decide (1 ≤ n) && decide (n ≤ 16)))]]
    rw [show decide (1 ≤ n) = false from h, Bool.false_and]
theorem sNumOk_ok : FnOk Try.prog 110 (pureC IntX [(.rd, false)] [false] (fun x => [[.lf (.int .i64 x.n)]]) (fun x => [[.lf (.bool (decide (1 ≤ x.n) && decide (x.n ≤ 16)))]])) := fnOk_of fun x => fnX_at tab_ok (SOk.nil) mixed (fn := Try.f110) (code := body Try.f110) ⟨Try.func110, rfl, by kernel_rfl, by kernel_rfl, by kernel_rfl, by kernel_rfl⟩ (ev_sNumOk x)
theorem ev_sStOk : ∀ x, evFnX tab [] (pureC IntX [(.rd, false)] [false] (fun x => [[.lf (.int .i64 x.n)]]) (fun x => [[.lf (.bool (decide (0 ≤ x.n) && decide (x.n ≤ 1099511627775)))]])) Try.f114 (body Try.f114) x := by
  rintro ⟨n⟩
  repeat' ((conv => whnf); refine br2 (fun h => ?_) (fun h => ?_))
  all_goals (conv => whnf)
  all_goals refine ⟨⟨rfl, ?_⟩⟩
  · show _ = [[D.lf (.bool (decide (0 ≤ n) && decide (n ≤ 1099511627775)))]]
    rw [show decide (0 ≤ n) = true from h, Bool.true_and]
  · show _ = [[D.lf (.bool (decide (0 ≤ n) && decide (n ≤ 1099511627775)))]]
    rw [show decide (0 ≤ n) = false from h, Bool.false_and]
theorem sStOk_ok : FnOk Try.prog 114 (pureC IntX [(.rd, false)] [false] (fun x => [[.lf (.int .i64 x.n)]]) (fun x => [[.lf (.bool (decide (0 ≤ x.n) && decide (x.n ≤ 1099511627775)))]])) := fnOk_of fun x => fnX_at tab_ok (SOk.nil) mixed (fn := Try.f114) (code := body Try.f114) ⟨Try.func114, rfl, by kernel_rfl, by kernel_rfl, by kernel_rfl, by kernel_rfl⟩ (ev_sStOk x)
def MsgPreP (x : MsgX) : Prop :=
  txOkB x.tx = true ∧ 0 ≤ x.sh ∧ x.sh ≤ 3 ∧ 1 ≤ x.k ∧ x.k ≤ 7 ∧
  (if x.k = 1 ∨ x.k = 2 ∨ x.k = 3 then 1 ≤ x.num ∧ x.num ≤ 16 else x.num = 0) ∧
  (if x.k = 1 then askOkB x.ask = true else x.ask = ask0) ∧
  (if x.k = 2 then 0 ≤ x.code ∧ x.code ≤ 9 ∧ x.ps.length ≤ 8 else x.code = 0 ∧ x.ps = [])
def MsgPostP (x : MsgX) : Prop := (if x.k = 3 ∨ (x.k = 2 ∧ x.code = 0) then 1 ≤ x.st ∧ x.st ≤ 1099511627775 else x.st = 0) ∧ (x.yes = true → x.k = 4 ∨ x.k = 5)
theorem msg_split {x : MsgX} : MsgOkP x ↔ MsgPreP x ∧ x.ps.all pairOkB = true ∧ MsgPostP x := by
  unfold MsgOkP MsgPreP MsgPostP
  simp only [and_assoc]
theorem ask0_iff {a : AskX} : (a.k == 0 && (strEq a.u ⟨#[]⟩ && (strEq a.v ⟨#[]⟩ && (strEq a.r.lo ⟨#[]⟩ && (strEq a.r.hi ⟨#[]⟩ && (a.n == 0 && (a.b == false && true))))))) = true ↔ a = ask0 := by
  obtain ⟨k, u, v, ⟨r1, r2⟩, n, b⟩ := a
  simp [ask0, rng0, strEq_iff, and_assoc]
theorem ask0_no {a : AskX} : (a.k == 0 && (strEq a.u ⟨#[]⟩ && (strEq a.v ⟨#[]⟩ && (strEq a.r.lo ⟨#[]⟩ && (strEq a.r.hi ⟨#[]⟩ && (a.n == 0 && (a.b == false && true))))))) = false ↔ ¬ a = ask0 := by
  rw [← ask0_iff]; simp
def MsgX.vs (x : MsgX) : List V := [.lf (.int .i64 x.k), .lf (.int .i64 x.tx.c), .lf (.int .i64 x.tx.e), .lf (.int .i64 x.tx.n), .lf (.int .i64 x.sh), .lf (.int .i64 x.num), .lf (.int .i64 x.st),
  .lf (.int .i64 x.ask.k), .lf (.string x.ask.u), .lf (.string x.ask.v), .lf (.string x.ask.r.lo), .lf (.string x.ask.r.hi), .lf (.int .i64 x.ask.n), .lf (.bool x.ask.b),
  .lf (.int .i64 x.code), .sl 0 none, .lf (.bool x.yes)]
theorem no_pair {x : MsgX} {y : RngX} {i : Nat} (hy : x.ps[i]? = some y) (h : pairOkB y = false) : ¬ MsgOkP x := fun hh => by
  have h1 := (msg_split.1 hh).2.1
  rw [List.all_eq_true] at h1
  rw [h1 y (List.mem_of_getElem? hy)] at h
  cases h
theorem msg_post {x : MsgX} {e : Bool} (h1 : MsgPreP x) (h2 : x.ps.all pairOkB = true) (h3 : e = true ↔ MsgPostP x) : e = true ↔ MsgOkP x := by
  rw [msg_split, h3]
  exact ⟨fun h => ⟨h1, h2, h⟩, fun h => h.2.2⟩
theorem ev_sMsgOk : ∀ x, evFnX tab [(109, cTxOk), (110, (pureC IntX [(.rd, false)] [false] (fun x => [[.lf (.int .i64 x.n)]]) (fun x => [[.lf (.bool (decide (1 ≤ x.n) && decide (x.n ≤ 16)))]]))), (111, cAskOk), (112, cUserOk), (113, cUvalOk), (114, (pureC IntX [(.rd, false)] [false] (fun x => [[.lf (.int .i64 x.n)]]) (fun x => [[.lf (.bool (decide (0 ≤ x.n) && decide (x.n ≤ 1099511627775)))]])))] cMsgOk Try.f38 (body Try.f38) x := by
  rintro ⟨k, x, s, m, st, a, c, p, t⟩
  repeat' ((conv => whnf); first
    | refine br2 (fun h => ?_) (fun h => ?_)
    | (refine ⟨x, rfl, ?_⟩; rintro _ _ ⟨rfl, rfl⟩)
    | (refine ⟨⟨m⟩, rfl, ?_⟩; rintro _ _ ⟨rfl, rfl⟩)
    | (refine ⟨a, rfl, ?_⟩; rintro _ _ ⟨rfl, rfl⟩)
    | intro hl)
  all_goals (conv => whnf)
  all_goals simp only [Bool.not_eq_true', Bool.not_eq_false', ask0_iff, ask0_no] at *
  all_goals first
    | (refine ⟨⟨rfl, _, rfl, no_iff fun hh => ?_⟩⟩
       rw [msg_split] at hh
       replace hh := hh.1
       simp only [MsgPreP, Bool.and_eq_false_iff, decide_eq_false_iff_not, Int.not_le] at *
       simp_all
       try omega)
    | (exfalso; simp_all; done)
    | have hp : MsgPreP ⟨k, x, s, m, st, a, c, p, t⟩ := by
        simp only [MsgPreP, Bool.and_eq_false_iff, decide_eq_false_iff_not, Int.not_le] at *
        simp_all
        try omega
  all_goals
    have hlen : p.length ≤ 9223372036854775807 := by assumption
    refine ⟨fun m_ s_ h_ => ∃ i : Nat, i ≤ p.length ∧ (∀ j y, j < i → p[j]? = some y → pairOkB y = true) ∧ m_ = p.length - i ∧ s_ = [(115, .lf (.int .i64 i)), (114, .lf (.int .i64 p.length)), (113, .sl 0 none), (1, .pt 16 0 0)] ∧ h_ = [(16, some (.arr true 17 [MsgX.vs ⟨k, x, s, m, st, a, c, p, t⟩])), (0, some (.row .lent 2 RngX.ds p))],
      p.length, [(16, 16), (0, 0)], [(115, .lf (.int .i64 0)), (114, .lf (.int .i64 p.length)), (113, .sl 0 none), (1, .pt 16 0 0)], [(16, some (.arr true 17 [MsgX.vs ⟨k, x, s, m, st, a, c, p, t⟩])), (0, some (.row .lent 2 RngX.ds p))], ⟨rfl, ⟨rfl, rfl, rfl, rfl, trivial⟩, ⟨rfl, rfl, trivial⟩⟩, ⟨0, by omega, fun j y h => by omega, by omega, rfl, rfl⟩, ?_⟩
    rintro m_ _ _ ⟨i, g1, g2, rfl, rfl, rfl⟩
    conv => whnf
    refine br2 (fun h5 => ?_) (fun h5 => ?_)
    · have hi : i < p.length := by have := of_decide_eq_true h5; omega
      obtain ⟨y, hy⟩ : ∃ y, p[i]? = some y := ⟨_, List.getElem?_eq_getElem hi⟩
      have hy2 : nth p ((i : Nat) : Int).toNat = some y := by rw [nth_eq, Int.toNat_natCast]; exact hy
      conv => whnf
      refine ⟨Int.natCast_nonneg _, (show (i : Int) < (p.length : Int) by omega), ?_⟩
      conv => whnf
      refine ex2 y hy2 ?_
      conv => whnf
      refine ⟨y.lo, rfl, ?_⟩
      rintro _ _ ⟨rfl, rfl⟩
      conv => whnf
      refine br2 (fun h6 => ?_) (fun h6 => ?_)
      · replace h6 : userOkB y.lo = false := nt_t h6
        conv => whnf
        exact ⟨⟨rfl, false, rfl, no_iff (no_pair hy (by simp [pairOkB, h6]))⟩⟩
      replace h6 : userOkB y.lo = true := nt_f h6
      conv => whnf
      refine ⟨y.hi, rfl, ?_⟩
      rintro _ _ ⟨rfl, rfl⟩
      conv => whnf
      refine br2 (fun h7 => ?_) (fun h7 => ?_)
      · replace h7 : uvalOkB y.hi = false := nt_t h7
        conv => whnf
        exact ⟨⟨rfl, false, rfl, no_iff (no_pair hy (by simp [pairOkB, h7]))⟩⟩
      replace h7 : uvalOkB y.hi = true := nt_f h7
      conv => whnf
      refine ⟨p.length - (i + 1), [(16, 16), (0, 0)], [(115, .lf (.int .i64 ((i + 1 : Nat) : Int))), (114, .lf (.int .i64 p.length)), (113, .sl 0 none), (1, .pt 16 0 0)], [(16, some (.arr true 17 [MsgX.vs ⟨k, x, s, m, st, a, c, p, t⟩])), (0, some (.row .lent 2 RngX.ds p))], by omega, ⟨rfl, ⟨?_, rfl, rfl, rfl, trivial⟩, ⟨rfl, rfl, trivial⟩⟩, i + 1, by omega, fun j z hj hz => ?_, rfl, rfl, rfl⟩
      · show V.lf (.int .i64 (IntKind.i64.wrap ((i : Int) + 1))) = _
        rw [w64 (by omega) (by omega)]; rfl
      · rcases Nat.lt_or_ge j i with h10 | h10
        · exact g2 j z h10 hz
        · obtain rfl : j = i := by omega
          rw [hy] at hz; cases hz; simp [pairOkB, h6, h7]
    have hi : i = p.length := by have := of_decide_eq_false h5; omega
    have hps : p.all pairOkB = true := by
      rw [List.all_eq_true]
      intro y hy
      obtain ⟨j, hj⟩ := List.getElem?_of_mem hy
      exact g2 j y (by rw [hi]; exact (List.getElem?_eq_some_iff.1 hj).1) hj
    clear g1 g2 h5 hi
    repeat' ((conv => whnf); first
      | refine br2 (fun h => ?_) (fun h => ?_)
      | (refine ⟨⟨st⟩, rfl, ?_⟩; rintro _ _ ⟨rfl, rfl⟩))
    all_goals (conv => whnf)
    all_goals refine ⟨⟨rfl, _, rfl, msg_post hp hps ?_⟩⟩
    all_goals clear hp hps
    all_goals simp only [MsgPostP, Bool.and_eq_false_iff, decide_eq_false_iff_not, Int.not_le, Bool.not_eq_true', Bool.not_eq_false'] at *
    all_goals simp_all
    all_goals try omega
theorem sMsgOk_ok : FnOk Try.prog 38 cMsgOk := fnOk_of fun x => fnX_at tab_ok (SOk.cons sTxOk_ok (SOk.cons sNumOk_ok (SOk.cons sAskOk_ok (SOk.cons sUserOk_ok (SOk.cons sUvalOk_ok (SOk.cons sStOk_ok SOk.nil)))))) mixed (fn := Try.f38) (code := body Try.f38) ⟨Try.func38, rfl, by kernel_rfl, by kernel_rfl, by kernel_rfl, by kernel_rfl⟩ (ev_sMsgOk x)
end Go.Vm
namespace Go.Vm
open Go.Proofs
set_option maxRecDepth 100000
set_option linter.unusedVariables false
set_option linter.unusedSimpArgs false

theorem nthM {α : Type} {l : List α} {f : α → List V} {i : Nat} {y : α} (h : l[i]? = some y) : nth (l.map f) ((i : Nat) : Int).toNat = some (f y) := by
  rw [nth_eq, Int.toNat_natCast, List.getElem?_map, h]; rfl
def MsgX.bv (x : MsgX) : List V := [.lf (.int .i64 x.k), .lf (.int .i64 x.tx.c), .lf (.int .i64 x.tx.e), .lf (.int .i64 x.tx.n), .lf (.int .i64 x.sh), .lf (.int .i64 x.num), .lf (.int .i64 x.st), .lf (.int .i64 x.ask.k), .lf (.string x.ask.u), .lf (.string x.ask.v), .lf (.string x.ask.r.lo), .lf (.string x.ask.r.hi), .lf (.int .i64 x.ask.n), .lf (.bool x.ask.b), .lf (.int .i64 x.code), .sl 0 none, .lf (.bool x.yes)]
def vI (n : Int) : List V := [.lf (.int .i64 n)]
def vS (n : ByteArray) : List V := [.lf (.string n)]
def cBit : Con := pureC Bool [(.rd, false)] [false] (fun b => [[.lf (.bool b)]]) (fun b => [[.lf (.int .i64 (bitN b))]])
theorem ev_bit : ∀ x, evFnX tab [] cBit Try.f99 (body Try.f99) x := by
  intro b
  cases b <;> (conv => whnf) <;> exact ⟨⟨rfl, rfl⟩⟩
theorem bit_ok : FnOk Try.prog 99 cBit := fnOk_of fun x => fnX_at tab_ok (SOk.nil) mixed (fn := Try.f99) (code := body Try.f99) ⟨Try.func99, rfl, by kernel_rfl, by kernel_rfl, by kernel_rfl, by kernel_rfl⟩ (ev_bit x)
theorem ev_l09Bit : ∀ x, evFnX tab [] cBit Try.f94 (body Try.f94) x := by
  intro b
  cases b <;> (conv => whnf) <;> exact ⟨⟨rfl, rfl⟩⟩
theorem l09Bit_ok : FnOk Try.prog 94 cBit := fnOk_of fun x => fnX_at tab_ok (SOk.nil) mixed (fn := Try.f94) (code := body Try.f94) ⟨Try.func94, rfl, by kernel_rfl, by kernel_rfl, by kernel_rfl, by kernel_rfl⟩ (ev_l09Bit x)
theorem ev_iMsgBytes : ∀ x, evFnX tab [(1000004, cGh), (96, cMsgOk), (97, cVary), (98, cText), (99, cBit)] cMsgBytes Try.f27 (body Try.f27) x := by
  intro x
  conv => whnf
  refine ⟨x, rfl, ?_⟩
  rintro _ _ ⟨rfl, b, rfl, e1⟩
  conv => whnf
  refine br2 (fun h => ?_) (fun h => ?_)
  · have hno : ¬ MsgOkP x := fun h2 => by rw [e1.2 h2] at h; cases h
    conv => whnf
    refine ⟨1, UInt8, encB, encB_len, ?_⟩
    conv => whnf
    exact ⟨⟨rfl, [], false, rfl, fun h => absurd h hno, fun _ => ⟨rfl, rfl⟩⟩⟩
  have hok : MsgOkP x := e1.1 (by simpa using h)
  obtain ⟨f1, f2, f3, f4, f5⟩ := msg_f hok
  conv => whnf
  refine ⟨[.row 256], ?_⟩
  conv => whnf
  refine ⟨UInt8, encB, [], encB_len, rfl, ?_⟩
  conv => whnf
  let S (q z n t : Nat) (i : Nat) : Sl := [(q, .lf (.int .i64 i)), (z, .lf (.int .i64 n)), (t, .sl (16 * t) none), (4, .sl 256 none), (1, .pt 16 0 0)]
  let H (t : Nat) (els : List (List V)) (l : List UInt8) : Hp := [(16 * t, some (.arr true 1 els)), (256, some (.row .own 1 encB l)), (16, some (.arr true 17 [x.bv])), (0, some (.row .lent 2 RngX.ds x.ps))]
  have hw : ∀ {i n : Nat}, i < n → n ≤ 100 → V.lf (.int .i64 (IntKind.i64.wrap ((i : Int) + 1))) = V.lf (.int .i64 ((i + 1 : Nat) : Int)) := fun h h2 => by rw [w64 (by omega) (by omega)]; rfl
  refine ⟨fun m s h => ∃ i : Nat, i ≤ 8 ∧ m = 8 - i ∧ s = S 39 38 8 37 i ∧ h = H 37 (x.n8.map vI) (numsL (x.n8.take i)),
    8, [(592, 592), (256, 256), (16, 16), (0, 0)], S 39 38 8 37 0, H 37 (x.n8.map vI) [], ⟨rfl, ⟨rfl, rfl, rfl, rfl, rfl, trivial⟩, rfl, rfl, rfl, rfl, trivial⟩, ⟨0, by omega, rfl, rfl, rfl⟩, ?_⟩
  rintro m _ _ ⟨i, g1, rfl, rfl, rfl⟩
  conv => whnf
  refine br2 (fun h5 => ?_) (fun h5 => ?_)
  · have hi : i < 8 := by have h6 : (i : Int) < ((8 : Nat) : Int) := of_decide_eq_true h5; omega
    obtain ⟨n, hn⟩ := getL (l := x.n8) hi
    have hb := numsL_lt f1 i
    have hb2 : x.n8.length = 8 := rfl
    conv => whnf
    refine ⟨Int.natCast_nonneg _, (show (i : Int) < ((8 : Nat) : Int) by omega), ?_⟩
    conv => whnf
    refine ex2 (vI n) (nthM hn) ?_
    conv => whnf
    refine useVary (l := numsL (x.n8.take i)) (n := n) (f1 n (List.mem_of_getElem? hn)) (by omega) rfl ?_
    rw [← numsL_take hn]
    conv => whnf
    exact ⟨8 - (i + 1), [(592, 592), (720, 256), (16, 16), (0, 0)], S 39 38 8 37 (i + 1), H 37 (x.n8.map vI) (numsL (x.n8.take (i + 1))), by omega, ⟨rfl, ⟨hw hi (by omega), rfl, rfl, rfl, rfl, trivial⟩, rfl, rfl, rfl, rfl, trivial⟩, i + 1, by omega, rfl, rfl, rfl⟩
  have hi : i = 8 := by have h6 : ¬ (i : Int) < ((8 : Nat) : Int) := of_decide_eq_false h5; omega
  subst hi
  have hl1 := numsL_lt f1 8
  rw [show x.n8.take 8 = x.n8 from rfl] at *
  generalize hl : numsL x.n8 = l1 at *
  replace hl1 : l1.length ≤ 48 := hl1
  conv => whnf
  refine ⟨fun m s h => ∃ i : Nat, i ≤ 4 ∧ m = 4 - i ∧ s = S 63 62 4 61 i ∧ h = H 61 (x.t4.map vS) (l1 ++ txtsL (x.t4.take i)),
    4, [(976, 976), (256, 256), (16, 16), (0, 0)], S 63 62 4 61 0, H 61 (x.t4.map vS) l1, ⟨rfl, ⟨rfl, rfl, rfl, rfl, rfl, trivial⟩, rfl, rfl, rfl, rfl, trivial⟩, ⟨0, by omega, rfl, rfl, by rw [show l1 ++ txtsL (x.t4.take 0) = l1 from List.append_nil _]⟩, ?_⟩
  rintro m _ _ ⟨i, g1, rfl, rfl, rfl⟩
  conv => whnf
  refine br2 (fun h5 => ?_) (fun h5 => ?_)
  · have hi : i < 4 := by have h6 : (i : Int) < ((4 : Nat) : Int) := of_decide_eq_true h5; omega
    obtain ⟨n, hn⟩ := getL (l := x.t4) hi
    have hb := txtsL_lt f2 i
    have hb2 : x.t4.length = 4 := rfl
    conv => whnf
    refine ⟨Int.natCast_nonneg _, (show (i : Int) < ((4 : Nat) : Int) by omega), ?_⟩
    conv => whnf
    refine ex2 (vS n) (nthM hn) ?_
    conv => whnf
    refine useText (l := l1 ++ txtsL (x.t4.take i)) (s := n) (f2 n (List.mem_of_getElem? hn)) (by simp; omega) rfl ?_
    rw [List.append_assoc, ← txtsL_take hn]
    conv => whnf
    exact ⟨4 - (i + 1), [(976, 976), (1104, 256), (16, 16), (0, 0)], S 63 62 4 61 (i + 1), H 61 (x.t4.map vS) (l1 ++ txtsL (x.t4.take (i + 1))), by omega, ⟨rfl, ⟨hw hi (by omega), rfl, rfl, rfl, rfl, trivial⟩, rfl, rfl, rfl, rfl, trivial⟩, i + 1, by omega, rfl, rfl, rfl⟩
  have hi : i = 4 := by have h6 : ¬ (i : Int) < ((4 : Nat) : Int) := of_decide_eq_false h5; omega
  subst hi
  have hl2 := txtsL_lt f2 4
  rw [show x.t4.take 4 = x.t4 from rfl] at *
  replace hl2 : (txtsL x.t4).length ≤ 104 := hl2
  obtain ⟨l2, el2⟩ : ∃ l2, l2 = l1 ++ txtsL x.t4 := ⟨_, rfl⟩
  have ll2 : l2.length ≤ 152 := by rw [el2]; simp; omega
  rw [← el2]
  conv => whnf
  intro h9
  conv => whnf
  repeat (refine rc_i rfl ?_; conv => whnf)
  refine ⟨x.ask.b, rfl, ?_⟩
  rintro _ _ ⟨rfl, rfl⟩
  conv => whnf
  repeat (refine rc_i (by (conv => whnf); first | rfl | (intro _; rfl)) ?_; conv => whnf)
  refine ⟨fun m s h => ∃ i : Nat, i ≤ 4 ∧ m = 4 - i ∧ s = S 85 84 4 83 i ∧ h = H 83 (x.n4.map vI) (l2 ++ numsL (x.n4.take i)),
    4, [(1328, 1328), (256, 256), (16, 16), (0, 0)], S 85 84 4 83 0, H 83 (x.n4.map vI) l2, ⟨rfl, ⟨rfl, rfl, rfl, rfl, rfl, trivial⟩, rfl, rfl, rfl, rfl, trivial⟩, ⟨0, by omega, rfl, rfl, by rw [show l2 ++ numsL (x.n4.take 0) = l2 from List.append_nil _]⟩, ?_⟩
  rintro m _ _ ⟨i, g1, rfl, rfl, rfl⟩
  conv => whnf
  refine br2 (fun h5 => ?_) (fun h5 => ?_)
  · have hi : i < 4 := by have h6 : (i : Int) < ((4 : Nat) : Int) := of_decide_eq_true h5; omega
    obtain ⟨n, hn⟩ := getL (l := x.n4) hi
    have hb := numsL_lt f3 i
    have hb2 : x.n4.length = 4 := rfl
    conv => whnf
    refine ⟨Int.natCast_nonneg _, (show (i : Int) < ((4 : Nat) : Int) by omega), ?_⟩
    conv => whnf
    refine ex2 (vI n) (nthM hn) ?_
    conv => whnf
    refine useVary (l := l2 ++ numsL (x.n4.take i)) (n := n) (f3 n (List.mem_of_getElem? hn)) (by simp; omega) rfl ?_
    rw [List.append_assoc, ← numsL_take hn]
    conv => whnf
    exact ⟨4 - (i + 1), [(1328, 1328), (1456, 256), (16, 16), (0, 0)], S 85 84 4 83 (i + 1), H 83 (x.n4.map vI) (l2 ++ numsL (x.n4.take (i + 1))), by omega, ⟨rfl, ⟨hw hi (by omega), rfl, rfl, rfl, rfl, trivial⟩, rfl, rfl, rfl, rfl, trivial⟩, i + 1, by omega, rfl, rfl, rfl⟩
  have hi : i = 4 := by have h6 : ¬ (i : Int) < ((4 : Nat) : Int) := of_decide_eq_false h5; omega
  subst hi
  have hl3 := numsL_lt f3 4
  rw [show x.n4.take 4 = x.n4 from rfl] at *
  replace hl3 : (numsL x.n4).length ≤ 24 := hl3
  obtain ⟨l3, el3⟩ : ∃ l3, l3 = l2 ++ numsL x.n4 := ⟨_, rfl⟩
  have ll3 : l3.length ≤ 176 := by rw [el3]; simp; omega
  rw [← el3]
  conv => whnf
  intro _
  conv => whnf
  let S4 (i : Nat) : Sl := [(96, .lf (.int .i64 i)), (95, .lf (.int .i64 x.ps.length)), (94, .sl 0 none), (4, .sl 256 none), (1, .pt 16 0 0)]
  let H4 (l : List UInt8) : Hp := [(256, some (.row .own 1 encB l)), (16, some (.arr true 17 [x.bv])), (0, some (.row .lent 2 RngX.ds x.ps))]
  refine ⟨fun m s h => ∃ i : Nat, i ≤ x.ps.length ∧ m = x.ps.length - i ∧ s = S4 i ∧ h = H4 (l3 ++ pairsL (x.ps.take i)),
    x.ps.length, [(256, 256), (16, 16), (0, 0)], S4 0, H4 l3, ⟨rfl, ⟨rfl, rfl, rfl, rfl, rfl, trivial⟩, rfl, rfl, rfl, trivial⟩, ⟨0, by omega, rfl, rfl, by rw [show l3 ++ pairsL (x.ps.take 0) = l3 from List.append_nil _]⟩, ?_⟩
  rintro m _ _ ⟨i, g1, rfl, rfl, rfl⟩
  have hb := pairsL_lt f5 i
  conv => whnf
  refine br2 (fun h5 => ?_) (fun h5 => ?_)
  · have hi : i < x.ps.length := by have h6 : (i : Int) < (x.ps.length : Int) := of_decide_eq_true h5; omega
    obtain ⟨n, hn⟩ := getL (l := x.ps) hi
    obtain ⟨z1, z2⟩ := f5 n (List.mem_of_getElem? hn)
    have z3 := encT_le z1 (by omega)
    conv => whnf
    refine ⟨Int.natCast_nonneg _, (show (i : Int) < (x.ps.length : Int) by omega), ?_⟩
    conv => whnf
    refine ex2 n (nthI hn) ?_
    conv => whnf
    repeat (refine rc_i rfl ?_; conv => whnf)
    refine useText (l := l3 ++ pairsL (x.ps.take i)) (s := n.lo) (by omega) (by simp; omega) rfl ?_
    conv => whnf
    repeat (refine rc_i rfl ?_; conv => whnf)
    refine useText (l := l3 ++ pairsL (x.ps.take i) ++ encT n.lo) (s := n.hi) (by omega) (by simp; omega) rfl ?_
    rw [show l3 ++ pairsL (x.ps.take i) ++ encT n.lo ++ encT n.hi = l3 ++ pairsL (x.ps.take (i + 1)) by rw [pairsL_take hn]; simp [pairL]]
    conv => whnf
    repeat (refine rc_i rfl ?_; conv => whnf)
    exact ⟨x.ps.length - (i + 1), [(1696, 256), (16, 16), (0, 0)], S4 (i + 1), H4 (l3 ++ pairsL (x.ps.take (i + 1))), by omega, ⟨rfl, ⟨hw hi (by omega), rfl, rfl, rfl, rfl, trivial⟩, rfl, rfl, rfl, trivial⟩, i + 1, by omega, rfl, rfl, rfl⟩
  have hi : i = x.ps.length := by have h6 : ¬ (i : Int) < (x.ps.length : Int) := of_decide_eq_false h5; omega
  subst hi
  rw [List.take_length] at *
  conv => whnf
  refine ⟨x.yes, rfl, ?_⟩
  rintro _ _ ⟨rfl, rfl⟩
  conv => whnf
  refine useVary (l := l3 ++ pairsL x.ps) (n := bitN x.yes) (bit_num _) (by simp; omega) rfl ?_
  conv => whnf
  exact ⟨⟨rfl, _, true, rfl, fun _ => ⟨rfl, by rw [el3, el2, ← hl]; simp [msgL, cutL]⟩, fun h => absurd hok h⟩⟩
theorem iMsgBytes_ok : FnOk Try.prog 27 cMsgBytes := fnOk_of fun x => fnX_at tab_ok (SOk.cons gh_ok (SOk.cons iMsgOk_ok (SOk.cons vary_ok (SOk.cons iText_ok (SOk.cons bit_ok SOk.nil))))) mixed (fn := Try.f27) (code := body Try.f27) ⟨Try.func27, rfl, by kernel_rfl, by kernel_rfl, by kernel_rfl, by kernel_rfl⟩ (ev_iMsgBytes x)
theorem ev_sMsgBytes : ∀ x, evFnX tab [(1000004, cGh), (38, cMsgOk), (92, cPutVar), (93, cPutText), (94, cBit)] cMsgBytes Try.f25 (body Try.f25) x := by
  intro x
  conv => whnf
  refine ⟨x, rfl, ?_⟩
  rintro _ _ ⟨rfl, b, rfl, e1⟩
  conv => whnf
  refine br2 (fun h => ?_) (fun h => ?_)
  · have hno : ¬ MsgOkP x := fun h2 => by rw [e1.2 h2] at h; cases h
    conv => whnf
    refine ⟨1, UInt8, encB, encB_len, ?_⟩
    conv => whnf
    exact ⟨⟨rfl, [], false, rfl, fun h => absurd h hno, fun _ => ⟨rfl, rfl⟩⟩⟩
  have hok : MsgOkP x := e1.1 (by simpa using h)
  obtain ⟨f1, f2, f3, f4, f5⟩ := msg_f hok
  conv => whnf
  refine ⟨[.row 256], ?_⟩
  conv => whnf
  refine ⟨UInt8, encB, [], encB_len, rfl, ?_⟩
  conv => whnf
  let S (q z n t : Nat) (i : Nat) : Sl := [(q, .lf (.int .i64 i)), (z, .lf (.int .i64 n)), (t, .sl (16 * t) none), (4, .sl 256 none), (1, .pt 16 0 0)]
  let H (t : Nat) (els : List (List V)) (l : List UInt8) : Hp := [(16 * t, some (.arr true 1 els)), (256, some (.row .own 1 encB l)), (16, some (.arr true 17 [x.bv])), (0, some (.row .lent 2 RngX.ds x.ps))]
  have hw : ∀ {i n : Nat}, i < n → n ≤ 100 → V.lf (.int .i64 (IntKind.i64.wrap ((i : Int) + 1))) = V.lf (.int .i64 ((i + 1 : Nat) : Int)) := fun h h2 => by rw [w64 (by omega) (by omega)]; rfl
  refine ⟨fun m s h => ∃ i : Nat, i ≤ 8 ∧ m = 8 - i ∧ s = S 39 38 8 37 i ∧ h = H 37 (x.n8.map vI) (numsL (x.n8.take i)),
    8, [(592, 592), (256, 256), (16, 16), (0, 0)], S 39 38 8 37 0, H 37 (x.n8.map vI) [], ⟨rfl, ⟨rfl, rfl, rfl, rfl, rfl, trivial⟩, rfl, rfl, rfl, rfl, trivial⟩, ⟨0, by omega, rfl, rfl, rfl⟩, ?_⟩
  rintro m _ _ ⟨i, g1, rfl, rfl, rfl⟩
  conv => whnf
  refine br2 (fun h5 => ?_) (fun h5 => ?_)
  · have hi : i < 8 := by have h6 : (i : Int) < ((8 : Nat) : Int) := of_decide_eq_true h5; omega
    obtain ⟨n, hn⟩ := getL (l := x.n8) hi
    have hb := numsL_lt f1 i
    have hb2 : x.n8.length = 8 := rfl
    conv => whnf
    refine ⟨Int.natCast_nonneg _, (show (i : Int) < ((8 : Nat) : Int) by omega), ?_⟩
    conv => whnf
    refine ex2 (vI n) (nthM hn) ?_
    conv => whnf
    refine usePut (l := numsL (x.n8.take i)) (n := n) (f1 n (List.mem_of_getElem? hn)) (by omega) rfl ?_
    rw [← numsL_take hn]
    conv => whnf
    exact ⟨8 - (i + 1), [(592, 592), (736, 256), (16, 16), (0, 0)], S 39 38 8 37 (i + 1), H 37 (x.n8.map vI) (numsL (x.n8.take (i + 1))), by omega, ⟨rfl, ⟨hw hi (by omega), rfl, rfl, rfl, rfl, trivial⟩, rfl, rfl, rfl, rfl, trivial⟩, i + 1, by omega, rfl, rfl, rfl⟩
  have hi : i = 8 := by have h6 : ¬ (i : Int) < ((8 : Nat) : Int) := of_decide_eq_false h5; omega
  subst hi
  have hl1 := numsL_lt f1 8
  rw [show x.n8.take 8 = x.n8 from rfl] at *
  generalize hl : numsL x.n8 = l1 at *
  replace hl1 : l1.length ≤ 48 := hl1
  conv => whnf
  refine ⟨fun m s h => ∃ i : Nat, i ≤ 4 ∧ m = 4 - i ∧ s = S 66 65 4 64 i ∧ h = H 64 (x.t4.map vS) (l1 ++ txtsL (x.t4.take i)),
    4, [(1024, 1024), (256, 256), (16, 16), (0, 0)], S 66 65 4 64 0, H 64 (x.t4.map vS) l1, ⟨rfl, ⟨rfl, rfl, rfl, rfl, rfl, trivial⟩, rfl, rfl, rfl, rfl, trivial⟩, ⟨0, by omega, rfl, rfl, by rw [show l1 ++ txtsL (x.t4.take 0) = l1 from List.append_nil _]⟩, ?_⟩
  rintro m _ _ ⟨i, g1, rfl, rfl, rfl⟩
  conv => whnf
  refine br2 (fun h5 => ?_) (fun h5 => ?_)
  · have hi : i < 4 := by have h6 : (i : Int) < ((4 : Nat) : Int) := of_decide_eq_true h5; omega
    obtain ⟨n, hn⟩ := getL (l := x.t4) hi
    have hb := txtsL_lt f2 i
    have hb2 : x.t4.length = 4 := rfl
    conv => whnf
    refine ⟨Int.natCast_nonneg _, (show (i : Int) < ((4 : Nat) : Int) by omega), ?_⟩
    conv => whnf
    refine ex2 (vS n) (nthM hn) ?_
    conv => whnf
    refine usePutT (l := l1 ++ txtsL (x.t4.take i)) (s := n) (f2 n (List.mem_of_getElem? hn)) (by simp; omega) rfl ?_
    rw [List.append_assoc, ← txtsL_take hn]
    conv => whnf
    exact ⟨4 - (i + 1), [(1024, 1024), (1168, 256), (16, 16), (0, 0)], S 66 65 4 64 (i + 1), H 64 (x.t4.map vS) (l1 ++ txtsL (x.t4.take (i + 1))), by omega, ⟨rfl, ⟨hw hi (by omega), rfl, rfl, rfl, rfl, trivial⟩, rfl, rfl, rfl, rfl, trivial⟩, i + 1, by omega, rfl, rfl, rfl⟩
  have hi : i = 4 := by have h6 : ¬ (i : Int) < ((4 : Nat) : Int) := of_decide_eq_false h5; omega
  subst hi
  have hl2 := txtsL_lt f2 4
  rw [show x.t4.take 4 = x.t4 from rfl] at *
  replace hl2 : (txtsL x.t4).length ≤ 104 := hl2
  obtain ⟨l2, el2⟩ : ∃ l2, l2 = l1 ++ txtsL x.t4 := ⟨_, rfl⟩
  have ll2 : l2.length ≤ 152 := by rw [el2]; simp; omega
  rw [← el2]
  conv => whnf
  intro h9
  conv => whnf
  repeat (refine rc_i rfl ?_; conv => whnf)
  refine ⟨x.ask.b, rfl, ?_⟩
  rintro _ _ ⟨rfl, rfl⟩
  conv => whnf
  repeat (refine rc_i (by (conv => whnf); first | rfl | (intro _; rfl)) ?_; conv => whnf)
  refine ⟨fun m s h => ∃ i : Nat, i ≤ 4 ∧ m = 4 - i ∧ s = S 91 90 4 89 i ∧ h = H 89 (x.n4.map vI) (l2 ++ numsL (x.n4.take i)),
    4, [(1424, 1424), (256, 256), (16, 16), (0, 0)], S 91 90 4 89 0, H 89 (x.n4.map vI) l2, ⟨rfl, ⟨rfl, rfl, rfl, rfl, rfl, trivial⟩, rfl, rfl, rfl, rfl, trivial⟩, ⟨0, by omega, rfl, rfl, by rw [show l2 ++ numsL (x.n4.take 0) = l2 from List.append_nil _]⟩, ?_⟩
  rintro m _ _ ⟨i, g1, rfl, rfl, rfl⟩
  conv => whnf
  refine br2 (fun h5 => ?_) (fun h5 => ?_)
  · have hi : i < 4 := by have h6 : (i : Int) < ((4 : Nat) : Int) := of_decide_eq_true h5; omega
    obtain ⟨n, hn⟩ := getL (l := x.n4) hi
    have hb := numsL_lt f3 i
    have hb2 : x.n4.length = 4 := rfl
    conv => whnf
    refine ⟨Int.natCast_nonneg _, (show (i : Int) < ((4 : Nat) : Int) by omega), ?_⟩
    conv => whnf
    refine ex2 (vI n) (nthM hn) ?_
    conv => whnf
    refine usePut (l := l2 ++ numsL (x.n4.take i)) (n := n) (f3 n (List.mem_of_getElem? hn)) (by simp; omega) rfl ?_
    rw [List.append_assoc, ← numsL_take hn]
    conv => whnf
    exact ⟨4 - (i + 1), [(1424, 1424), (1568, 256), (16, 16), (0, 0)], S 91 90 4 89 (i + 1), H 89 (x.n4.map vI) (l2 ++ numsL (x.n4.take (i + 1))), by omega, ⟨rfl, ⟨hw hi (by omega), rfl, rfl, rfl, rfl, trivial⟩, rfl, rfl, rfl, rfl, trivial⟩, i + 1, by omega, rfl, rfl, rfl⟩
  have hi : i = 4 := by have h6 : ¬ (i : Int) < ((4 : Nat) : Int) := of_decide_eq_false h5; omega
  subst hi
  have hl3 := numsL_lt f3 4
  rw [show x.n4.take 4 = x.n4 from rfl] at *
  replace hl3 : (numsL x.n4).length ≤ 24 := hl3
  obtain ⟨l3, el3⟩ : ∃ l3, l3 = l2 ++ numsL x.n4 := ⟨_, rfl⟩
  have ll3 : l3.length ≤ 176 := by rw [el3]; simp; omega
  rw [← el3]
  conv => whnf
  intro _
  conv => whnf
  let S4 (i : Nat) : Sl := [(105, .lf (.int .i64 i)), (104, .lf (.int .i64 x.ps.length)), (103, .sl 0 none), (4, .sl 256 none), (1, .pt 16 0 0)]
  let H4 (l : List UInt8) : Hp := [(256, some (.row .own 1 encB l)), (16, some (.arr true 17 [x.bv])), (0, some (.row .lent 2 RngX.ds x.ps))]
  refine ⟨fun m s h => ∃ i : Nat, i ≤ x.ps.length ∧ m = x.ps.length - i ∧ s = S4 i ∧ h = H4 (l3 ++ pairsL (x.ps.take i)),
    x.ps.length, [(256, 256), (16, 16), (0, 0)], S4 0, H4 l3, ⟨rfl, ⟨rfl, rfl, rfl, rfl, rfl, trivial⟩, rfl, rfl, rfl, trivial⟩, ⟨0, by omega, rfl, rfl, by rw [show l3 ++ pairsL (x.ps.take 0) = l3 from List.append_nil _]⟩, ?_⟩
  rintro m _ _ ⟨i, g1, rfl, rfl, rfl⟩
  have hb := pairsL_lt f5 i
  conv => whnf
  refine br2 (fun h5 => ?_) (fun h5 => ?_)
  · have hi : i < x.ps.length := by have h6 : (i : Int) < (x.ps.length : Int) := of_decide_eq_true h5; omega
    obtain ⟨n, hn⟩ := getL (l := x.ps) hi
    obtain ⟨z1, z2⟩ := f5 n (List.mem_of_getElem? hn)
    have z3 := encT_le z1 (by omega)
    conv => whnf
    refine ⟨Int.natCast_nonneg _, (show (i : Int) < (x.ps.length : Int) by omega), ?_⟩
    conv => whnf
    refine ex2 n (nthI hn) ?_
    conv => whnf
    repeat (refine rc_i rfl ?_; conv => whnf)
    refine usePutT (l := l3 ++ pairsL (x.ps.take i)) (s := n.lo) (by omega) (by simp; omega) rfl ?_
    conv => whnf
    repeat (refine rc_i rfl ?_; conv => whnf)
    refine usePutT (l := l3 ++ pairsL (x.ps.take i) ++ encT n.lo) (s := n.hi) (by omega) (by simp; omega) rfl ?_
    rw [show l3 ++ pairsL (x.ps.take i) ++ encT n.lo ++ encT n.hi = l3 ++ pairsL (x.ps.take (i + 1)) by rw [pairsL_take hn]; simp [pairL]]
    conv => whnf
    repeat (refine rc_i rfl ?_; conv => whnf)
    exact ⟨x.ps.length - (i + 1), [(1920, 256), (16, 16), (0, 0)], S4 (i + 1), H4 (l3 ++ pairsL (x.ps.take (i + 1))), by omega, ⟨rfl, ⟨hw hi (by omega), rfl, rfl, rfl, rfl, trivial⟩, rfl, rfl, rfl, trivial⟩, i + 1, by omega, rfl, rfl, rfl⟩
  have hi : i = x.ps.length := by have h6 : ¬ (i : Int) < (x.ps.length : Int) := of_decide_eq_false h5; omega
  subst hi
  rw [List.take_length] at *
  conv => whnf
  refine ⟨x.yes, rfl, ?_⟩
  rintro _ _ ⟨rfl, rfl⟩
  conv => whnf
  refine usePut (l := l3 ++ pairsL x.ps) (n := bitN x.yes) (bit_num _) (by simp; omega) rfl ?_
  conv => whnf
  exact ⟨⟨rfl, _, true, rfl, fun _ => ⟨rfl, by rw [el3, el2, ← hl]; simp [msgL, cutL]⟩, fun h => absurd hok h⟩⟩
theorem sMsgBytes_ok : FnOk Try.prog 25 cMsgBytes := fnOk_of fun x => fnX_at tab_ok (SOk.cons gh_ok (SOk.cons sMsgOk_ok (SOk.cons putVar_ok (SOk.cons sPutText_ok (SOk.cons l09Bit_ok SOk.nil))))) mixed (fn := Try.f25) (code := body Try.f25) ⟨Try.func25, rfl, by kernel_rfl, by kernel_rfl, by kernel_rfl, by kernel_rfl⟩ (ev_sMsgBytes x)
end Go.Vm
namespace Go.Vm
open Go.Proofs
set_option linter.unusedVariables false
set_option linter.unusedSimpArgs false

inductive NoSh : D → Prop
  | lf {v : Value} : NoSh (.lf v)
  | dead : NoSh .dead
  | row {sz : Nat} {α : Type} {enc : α → List D} {l : List α} (h : ∀ i f, i < l.length → f < sz → NoSh (dat enc l i f)) : NoSh (.row sz enc l)
  | box {cs : List D} (h : ∀ f, f < cs.length → NoSh (cs.getD f .dead)) : NoSh (.box cs)
  | fn {f : Nat} : NoSh (.fn f [])
theorem Own.anyK {w : World} {K K' F : Nat → Prop} {v : Value} {d : D} (h : Own w K F v d) (hs : NoSh d) : Own w K' F v d := by
  induction h with
  | lf h hF => exact .lf h hF
  | dead h hF => exact .dead h hF
  | nil hz hF => exact .nil hz hF
  | row vals G hn hb hc hm hcap hz hv hr hd hg hF ih =>
    cases hs with
    | row hs => exact .row vals G hn hb hc hm hcap hz hv (fun i f hi hf => ih i f hi hf (hs i f (hn ▸ hi) hf)) hd hg hF
  | box vals G hb hv hfr hr hd hg hF ih =>
    cases hs with
    | box hs => exact .box vals G hb hv hfr (fun f hf => ih f hf (hs f hf)) hd hg hF
  | fn hF => exact .fn hF
  | sh h hF => cases hs
def rdM : Mode × Bool → Mode × Bool
  | (.keep, g) => (.rd, g)
  | p => p
def Con.rd (c : Con) : Con := { c with params := c.params.map rdM }
theorem argsR_rd {w : World} {R Kp : Nat → Prop} (hK : ∀ y, Kp y → R y) : ∀ {ps : List (Mode × Bool)} {dss : List (List D)} {vs : List Value} {Fs : List (Nat → Prop)}, ArgsR w R Kp (ps.map rdM) dss vs Fs → ArgsR w R R ps dss vs Fs
  | [], [], [], [], _ => trivial
  | (m, g) :: ps, ds :: dss, v :: vs, F :: Fs, h => by
    cases m with
    | rd =>
      obtain ⟨⟨cs, hc, hl, G, g1, g2, g3⟩, h2⟩ := h
      exact ⟨⟨cs, hc, hl, G, g1, g2, g3⟩, argsR_rd hK h2⟩
    | keep =>
      obtain ⟨⟨cs, hc, hl, G, g1, g2, g3⟩, h2⟩ := h
      exact ⟨⟨cs, hc, hl, G, g1, g2, g3⟩, argsR_rd hK h2⟩
    | «mut» =>
      obtain ⟨⟨cs, hc, hl, G, g1, g2, g3⟩, h2⟩ := h
      exact ⟨⟨cs, hc, hl, G, fun f hf => Own.mono (g1 f hf) hK, g2, g3⟩, argsR_rd hK h2⟩
    | take =>
      obtain ⟨⟨cs, hc, hl, G, g1, g2, g3⟩, h2⟩ := h
      exact ⟨⟨cs, hc, hl, G, fun f hf => Own.mono (g1 f hf) hK, g2, g3⟩, argsR_rd hK h2⟩
theorem mutsW_rd : ∀ (ps : List (Mode × Bool)) (vs : List Value), mutsW (ps.map rdM) vs = mutsW ps vs
  | [], _ => by simp [mutsW]
  | (m, g) :: ps, [] => by cases m <;> cases g <;> simp [mutsW, rdM]
  | (m, g) :: ps, v :: vs => by
    have := mutsW_rd ps vs
    cases m <;> cases g <;> simp [mutsW, rdM, this]
theorem resR_any {w : World} {K K' : Nat → Prop} : ∀ {gs : List Bool} {dss : List (List D)} {vs : List Value} {Fs : List (Nat → Prop)}, (∀ ds ∈ dss, ∀ d ∈ ds, NoSh d) → ResR true w K gs dss vs Fs → ResR true w K' gs dss vs Fs
  | [], [], [], [], _, _ => trivial
  | g :: gs, ds :: dss, v :: vs, F :: Fs, hs, h => by
    obtain ⟨⟨cs, hc, hl, G, g1, g2, g3⟩, h2⟩ := h
    refine ⟨⟨cs, hc, hl, G, fun f hf => Own.anyK (g1 f hf) ?_, g2, g3⟩, resR_any (fun ds hd => hs ds (List.mem_cons_of_mem _ hd)) h2⟩
    have hlt : f < ds.length := by omega
    show NoSh (ds.getD f .dead)
    rw [show ds.getD f .dead = ds[f] by simp [List.getD, hlt]]
    exact hs ds (List.mem_cons_self ..) _ (List.getElem_mem hlt)
theorem outsR_any {w : World} {K K' : Nat → Prop} : ∀ {vs : List Value} {os : List (List D)} {Fs : List (Nat → Prop)}, (∀ ds ∈ os, ∀ d ∈ ds, NoSh d) → OutsR w K vs os Fs → OutsR w K' vs os Fs
  | [], [], [], _, _ => trivial
  | v :: vs, [d] :: os, F :: Fs, hs, h => ⟨Own.anyK h.1 (hs [d] (List.mem_cons_self ..) d (List.mem_cons_self ..)), outsR_any (fun ds hd => hs ds (List.mem_cons_of_mem _ hd)) h.2⟩
theorem FnOk.rd {P : Program} {f : FuncId} {c : Con} (h : FnOk P f c) (ho : c.resOwn = true)
    (hs : ∀ x outs res, c.post x outs res → (∀ ds ∈ outs, ∀ d ∈ ds, NoSh d) ∧ ∀ ds ∈ res, ∀ d ∈ ds, NoSh d) : FnOk P f c.rd := by
  intro x w args R Kp Fs ha hd hr hk hlt
  have key : ∀ v w', (∃ outs res N rs Hs Os, Out c x w args R Fs v w' outs res N rs Hs Os) → ∃ outs res N rs Hs Os, Out c.rd x w args Kp Fs v w' outs res N rs Hs Os := by
    rintro v w' ⟨outs, res, N, rs, Hs, Os, o⟩
    obtain ⟨s1, s2⟩ := hs x outs res o.post
    refine ⟨outs, res, N, rs, Hs, Os, o.post, o.shape, o.frame, o.new, ?_, o.ret, ?_, o.dis, o.src⟩
    · have := o.res
      show ResR c.resOwn _ _ _ _ _ _
      rw [ho] at *
      exact resR_any s2 this
    · show OutsR _ _ (mutsW (c.params.map rdM) args) _ _
      rw [mutsW_rd]
      exact outsR_any s1 o.outs
  rcases h x w args R R Fs (argsR_rd hk ha) hd hr (fun _ h => h) hlt with ⟨fn, h1, h2, h3, h4⟩ | ⟨v, w', h1, h2⟩
  · refine .inl ⟨fn, h1, h2, h3, h4.mono ?_⟩
    rintro e w' ⟨v, rfl, hv⟩
    exact ⟨v, rfl, key v w' hv⟩
  · exact .inr ⟨v, w', h1, key v w' h2⟩
end Go.Vm
namespace Go.Vm
open Go.Proofs
set_option maxRecDepth 100000
set_option linter.unusedVariables false
set_option linter.unusedSimpArgs false

def scanS (l : List UInt8) (a : Int) (bad : Bool) : List (List D) := [[.box [.sh (.row 1 encB l), .lf (.int .i64 a), .lf (.bool bad)]]]
structure ScanN (l : List UInt8) (a : Int) (bad : Bool) (v a' : Int) (bad' : Bool) : Prop where
  lo : -9223372036854775808 ≤ a'
  hi : a' ≤ 9223372036854775807
  num : NumP v
  got : ∀ (pre : List UInt8) (u : Nat) (post : List UInt8), bad = false → l = pre ++ varB u ++ post → a = pre.length → u ≤ 1099511627775 → v = u ∧ a' = pre.length + (varB u).length ∧ bad' = false
def cScanTextS : Con := { X := ScanX, params := [(.mut, false)], res := [false], resOwn := true, ins := (fun x => scanS x.l x.a x.bad), post := fun x outs r => ∃ t a' bad', outs = scanS x.l a' bad' ∧ r = [[.lf (.string t)]] ∧ ScanT x.l x.a x.bad t a' bad' }
def cScanNumS : Con := { X := ScanX, params := [(.mut, false)], res := [false], resOwn := true, ins := (fun x => scanS x.l x.a x.bad), post := fun x outs r => ∃ v a' bad', outs = scanS x.l a' bad' ∧ r = [[.lf (.int .i64 v)]] ∧ ScanN x.l x.a x.bad v a' bad' }
theorem ev_scanTextS : ∀ x, evFnX tab [(170, cGetText)] cScanTextS Try.f105 (body Try.f105) x := by
  rintro ⟨l, a, bad, hl, h1, h2⟩
  conv => whnf
  refine ⟨⟨l, a, hl, h1, h2⟩, rfl, ?_⟩
  rintro _ _ ⟨rfl, t, nx, rfl, hG⟩
  have hG0 : nx = -1 ∧ t = ⟨#[]⟩ ∨ 0 ≤ a ∧ a < nx ∧ nx ≤ l.length ∧ t.size ≤ l.length := hG.1
  conv => whnf
  repeat (refine rc_i rfl ?_; conv => whnf)
  cases bad with
  | true =>
    conv => whnf
    refine ⟨⟨⟨#[]⟩, a, true, rfl, rfl, h1, h2, fun pre u post h => by cases h⟩⟩
  | false =>
    conv => whnf
    refine br2 (fun h3 => ?_) (fun h3 => ?_)
    · have h3' := of_decide_eq_true h3
      conv => whnf
      refine ⟨⟨⟨#[]⟩, a, true, rfl, rfl, h1, h2, fun pre u post _ e1 e2 e3 => ?_⟩⟩
      obtain ⟨_, e5⟩ := hG.2 pre u post e1 e2 e3
      omega
    · have h3' := of_decide_eq_false h3
      conv => whnf
      refine ⟨⟨t, nx, false, rfl, rfl, by omega, by omega, fun pre u post _ e1 e2 e3 => ?_⟩⟩
      obtain ⟨e4, e5⟩ := hG.2 pre u post e1 e2 e3
      exact ⟨e4, e5, rfl⟩
theorem scanTextS_ok : FnOk Try.prog 105 cScanTextS := fnOk_of fun x => fnX_at tab_ok (SOk.cons iGetText_ok SOk.nil) mixed (fn := Try.f105) (code := body Try.f105) ⟨Try.func105, rfl, by kernel_rfl, by kernel_rfl, by kernel_rfl, by kernel_rfl⟩ (ev_scanTextS x)
theorem ev_scanNumS : ∀ x, evFnX tab [(169, cGetVar)] cScanNumS Try.f104 (body Try.f104) x := by
  rintro ⟨l, a, bad, hl, h1, h2⟩
  conv => whnf
  refine ⟨⟨l, a, hl, h1, h2⟩, rfl, ?_⟩
  rintro _ _ ⟨rfl, v, nx, rfl, hG⟩
  have hG0 : nx = -1 ∧ v = 0 ∨ 0 ≤ v ∧ v ≤ 1099511627775 ∧ 0 ≤ a ∧ a < nx ∧ nx ≤ l.length := hG.1
  have hv : NumP v := ⟨by omega, by omega⟩
  have h00 : NumP 0 := ⟨by decide, by decide⟩
  conv => whnf
  repeat (refine rc_i rfl ?_; conv => whnf)
  cases bad with
  | true =>
    conv => whnf
    refine ⟨⟨0, a, true, rfl, rfl, h1, h2, h00, fun pre u post h => by cases h⟩⟩
  | false =>
    conv => whnf
    refine br2 (fun h3 => ?_) (fun h3 => ?_)
    · have h3' := of_decide_eq_true h3
      conv => whnf
      refine ⟨⟨0, a, true, rfl, rfl, h1, h2, h00, fun pre u post _ e1 e2 e3 => ?_⟩⟩
      obtain ⟨_, e5⟩ := hG.2 pre u post e1 e2 e3
      omega
    · have h3' := of_decide_eq_false h3
      conv => whnf
      refine ⟨⟨v, nx, false, rfl, rfl, by omega, by omega, hv, fun pre u post _ e1 e2 e3 => ?_⟩⟩
      obtain ⟨e4, e5⟩ := hG.2 pre u post e1 e2 e3
      exact ⟨e4, e5, rfl⟩
theorem scanNumS_ok : FnOk Try.prog 104 cScanNumS := fnOk_of fun x => fnX_at tab_ok (SOk.cons iGetVar_ok SOk.nil) mixed (fn := Try.f104) (code := body Try.f104) ⟨Try.func104, rfl, by kernel_rfl, by kernel_rfl, by kernel_rfl, by kernel_rfl⟩ (ev_scanNumS x)
structure ScanM (l : List UInt8) (a : Int) (bad : Bool) (most v a' : Int) (bad' : Bool) : Prop where
  lo : -9223372036854775808 ≤ a'
  hi : a' ≤ 9223372036854775807
  num : 0 ≤ v ∧ v ≤ most
  got : ∀ (pre : List UInt8) (u : Nat) (post : List UInt8), bad = false → l = pre ++ varB u ++ post → a = pre.length → u ≤ 1099511627775 → (u : Int) ≤ most → v = u ∧ a' = pre.length + (varB u).length ∧ bad' = false
structure ManyX where
  x : ScanX
  most : Int
  hm : 0 ≤ most
def cScanManyS : Con := { X := ManyX, params := [(.mut, false), (.rd, false)], res := [false], resOwn := true, ins := (fun x => [[.box [.sh (.row 1 encB x.x.l), .lf (.int .i64 x.x.a), .lf (.bool x.x.bad)]], [.lf (.int .i64 x.most)]]), post := fun x outs r => ∃ v a' bad', outs = scanS x.x.l a' bad' ∧ r = [[.lf (.int .i64 v)]] ∧ ScanM x.x.l x.x.a x.x.bad x.most v a' bad' }
theorem useNum {l : List UInt8} {a : Int} {bad : Bool} {ds : List (List D)} {Q : List (List D) → List (List D) → Prop} (hl : l.length ≤ 4294967296) (h1 : -9223372036854775808 ≤ a) (h2 : a ≤ 9223372036854775807) (hd : scanS l a bad = ds)
    (h : ∀ (v a' : Int) (bad' : Bool), ScanN l a bad v a' bad' → Q (scanS l a' bad') [[.lf (.int .i64 v)]]) : ∃ x, cScanNumS.ins x = ds ∧ ∀ outs res, cScanNumS.post x outs res → Q outs res := by
  refine ⟨⟨l, a, bad, hl, h1, h2⟩, hd, ?_⟩
  rintro _ _ ⟨v, a', bad', rfl, rfl, hS⟩
  exact h v a' bad' hS
theorem useTxt {l : List UInt8} {a : Int} {bad : Bool} {ds : List (List D)} {Q : List (List D) → List (List D) → Prop} (hl : l.length ≤ 4294967296) (h1 : -9223372036854775808 ≤ a) (h2 : a ≤ 9223372036854775807) (hd : scanS l a bad = ds)
    (h : ∀ (v : ByteArray) (a' : Int) (bad' : Bool), ScanT l a bad v a' bad' → Q (scanS l a' bad') [[.lf (.string v)]]) : ∃ x, cScanTextS.ins x = ds ∧ ∀ outs res, cScanTextS.post x outs res → Q outs res := by
  refine ⟨⟨l, a, bad, hl, h1, h2⟩, hd, ?_⟩
  rintro _ _ ⟨v, a', bad', rfl, rfl, hS⟩
  exact h v a' bad' hS
theorem ev_scanManyS : ∀ x, evFnX tab [(104, cScanNumS)] cScanManyS Try.f106 (body Try.f106) x := by
  rintro ⟨⟨l, a, bad, hl, h1, h2⟩, most, hm⟩
  conv => whnf
  refine useNum hl h1 h2 rfl fun v a' bad' hS => ?_
  have hn := hS.num
  conv => whnf
  refine br2 (fun h3 => ?_) (fun h3 => ?_)
  · have h3' : v > most := of_decide_eq_true h3
    conv => whnf
    refine ⟨⟨0, a', true, rfl, rfl, hS.lo, hS.hi, ⟨Int.le_refl _, hm⟩, fun pre u post e0 e1 e2 e3 e4 => ?_⟩⟩
    obtain ⟨e5, _⟩ := hS.got pre u post e0 e1 e2 e3
    replace e4 : (u : Int) ≤ most := e4
    omega
  · have h3' : ¬ v > most := of_decide_eq_false h3
    cases bad' with
    | true =>
      conv => whnf
      refine ⟨⟨0, a', true, rfl, rfl, hS.lo, hS.hi, ⟨Int.le_refl _, hm⟩, fun pre u post e0 e1 e2 e3 e4 => ?_⟩⟩
      obtain ⟨_, _, e5⟩ := hS.got pre u post e0 e1 e2 e3
      cases e5
    | false =>
      conv => whnf
      exact ⟨⟨v, a', false, rfl, rfl, hS.lo, hS.hi, ⟨hn.1, (show v ≤ most by omega)⟩, fun pre u post e0 e1 e2 e3 e4 => hS.got pre u post e0 e1 e2 e3⟩⟩
theorem scanManyS_ok : FnOk Try.prog 106 cScanManyS := fnOk_of fun x => fnX_at tab_ok (SOk.cons scanNumS_ok SOk.nil) mixed (fn := Try.f106) (code := body Try.f106) ⟨Try.func106, rfl, by kernel_rfl, by kernel_rfl, by kernel_rfl, by kernel_rfl⟩ (ev_scanManyS x)
end Go.Vm
namespace Go.Vm
open Go.Proofs
set_option maxRecDepth 100000
set_option linter.unusedVariables false
set_option linter.unusedSimpArgs false

/-- Where the reading stands if these are a message's bytes. -/
def At (b : List UInt8) (i : Nat) (a : Int) (bad : Bool) : Prop := ∀ q, MsgOkP q → msgL q = b → a = q.pos i ∧ bad = false
def IsOf {α : Type} (b : List UInt8) (v : α) (g : MsgX → α) : Prop := ∀ q, MsgOkP q → msgL q = b → v = g q
theorem at_num {b : List UInt8} {i : Nat} {a v a' : Int} {bad bad' : Bool} (g : MsgX → Int) (h : At b i a bad) (hf : ∀ q, MsgOkP q → msgL q = b → q.flds[i]? = some (.n (g q)) ∧ NumP (g q)) (hS : ScanN b a bad v a' bad') : At b (i + 1) a' bad' ∧ IsOf b v g := by
  have key : ∀ q, MsgOkP q → msgL q = b → v = g q ∧ a' = q.pos (i + 1) ∧ bad' = false := by
    intro q h1 h2
    obtain ⟨e1, e2⟩ := h q h1 h2
    obtain ⟨f1, f2⟩ := hf q h1 h2
    obtain ⟨s1, s2, s3⟩ := hS.got _ (g q).toNat _ e2 (by rw [← h2]; exact flds_cut f1) e1 (by have := f2.2; omega)
    refine ⟨by have := f2.1; omega, ?_, s3⟩
    rw [pos_succ f1, s2]; rfl
  exact ⟨fun q h1 h2 => (key q h1 h2).2, fun q h1 h2 => (key q h1 h2).1⟩
theorem at_txt {b : List UInt8} {i : Nat} {a a' : Int} {v : ByteArray} {bad bad' : Bool} (g : MsgX → ByteArray) (h : At b i a bad) (hf : ∀ q, MsgOkP q → msgL q = b → q.flds[i]? = some (.t (g q)) ∧ (g q).size ≤ 20) (hS : ScanT b a bad v a' bad') : At b (i + 1) a' bad' ∧ IsOf b v g := by
  have key : ∀ q, MsgOkP q → msgL q = b → v = g q ∧ a' = q.pos (i + 1) ∧ bad' = false := by
    intro q h1 h2
    obtain ⟨e1, e2⟩ := h q h1 h2
    obtain ⟨f1, f2⟩ := hf q h1 h2
    obtain ⟨s1, s2, s3⟩ := hS.got _ (g q) _ e2 (by rw [← h2]; exact flds_cut f1) e1 (by omega)
    refine ⟨s1, ?_, s3⟩
    rw [pos_succ f1, s2]; rfl
  exact ⟨fun q h1 h2 => (key q h1 h2).2, fun q h1 h2 => (key q h1 h2).1⟩
theorem at_many {b : List UInt8} {a v a' : Int} {bad bad' : Bool} (h : At b 15 a bad) (hS : ScanM b a bad 8 v a' bad') : At b 16 a' bad' ∧ IsOf b v (fun q => (q.ps.length : Int)) := by
  have key : ∀ q, MsgOkP q → msgL q = b → v = (q.ps.length : Int) ∧ a' = q.pos 16 ∧ bad' = false := by
    intro q h1 h2
    obtain ⟨e1, e2⟩ := h q h1 h2
    have f1 : q.flds[15]? = some (.n (q.ps.length : Int)) := flds_head rfl
    have f2 := (msg_f h1).pl
    obtain ⟨s1, s2, s3⟩ := hS.got _ (q.ps.length : Int).toNat _ e2 (by rw [← h2]; exact flds_cut f1) e1 (by omega) (by omega)
    refine ⟨by omega, ?_, s3⟩
    rw [pos_succ f1, s2]; rfl
  exact ⟨fun q h1 h2 => (key q h1 h2).2, fun q h1 h2 => (key q h1 h2).1⟩
theorem at0 (b : List UInt8) : At b 0 0 false := fun q _ _ => ⟨rfl, rfl⟩
theorem n8_get {q : MsgX} (h : MsgOkP q) {n : Int} (hn : n ∈ q.n8) : NumP n := (msg_f h).n8 n hn
theorem n4_get {q : MsgX} (h : MsgOkP q) {n : Int} (hn : n ∈ q.n4) : NumP n := (msg_f h).n4 n hn
theorem t4_get {q : MsgX} (h : MsgOkP q) {n : ByteArray} (hn : n ∈ q.t4) : n.size ≤ 20 := (msg_f h).t4 n hn
def cMsgReadK : Con := relC BytesX [(.keep, false)] [true, false] (fun x => [[.row 1 encB x.l]]) (fun x r => ∃ q ok, r = [q.ds, [.lf (.bool ok)]] ∧ MsgReadR x.l q ok)
def msgZ : List V := [.lf (.int .i64 0), .lf (.int .i64 0), .lf (.int .i64 0), .lf (.int .i64 0), .lf (.int .i64 0), .lf (.int .i64 0), .lf (.int .i64 0), .lf (.int .i64 0), .lf (.string ⟨#[]⟩), .lf (.string ⟨#[]⟩), .lf (.string ⟨#[]⟩), .lf (.string ⟨#[]⟩), .lf (.int .i64 0), .lf (.bool false), .lf (.int .i64 0), .lf (.slice none 0 0), .lf (.bool false)]
def nm (d : Nat) : Nat := 16 * (300000 + 8 * d)
theorem ev_iMsgReadK : ∀ x, evFnX tab [(1000019, cGh), (104, cScanNumS), (105, cScanTextS), (106, cScanManyS), (27, cMsgBytes)] cMsgReadK Try.f35 (body Try.f35) x := by
  rintro ⟨b, hb⟩
  have hb' : b.length ≤ 4294967296 := by omega
  have A0 := at0 b
  conv => whnf
  refine useNum hb' (by decide) (by decide) rfl fun k _ _ h1 => ?_
  obtain ⟨A1, Ik⟩ := at_num (fun q => q.k) A0 (fun q h1 _ => ⟨flds_head rfl, n8_get h1 (by simp [MsgX.n8])⟩) h1
  conv => whnf
  refine useNum hb' h1.lo h1.hi rfl fun c _ _ h2 => ?_
  obtain ⟨A2, Ic⟩ := at_num (fun q => q.tx.c) A1 (fun q h1 _ => ⟨flds_head rfl, n8_get h1 (by simp [MsgX.n8])⟩) h2
  conv => whnf
  refine useNum hb' h2.lo h2.hi rfl fun e _ _ h3 => ?_
  obtain ⟨A3, Ie⟩ := at_num (fun q => q.tx.e) A2 (fun q h1 _ => ⟨flds_head rfl, n8_get h1 (by simp [MsgX.n8])⟩) h3
  conv => whnf
  refine useNum hb' h3.lo h3.hi rfl fun n _ _ h4 => ?_
  obtain ⟨A4, In⟩ := at_num (fun q => q.tx.n) A3 (fun q h1 _ => ⟨flds_head rfl, n8_get h1 (by simp [MsgX.n8])⟩) h4
  conv => whnf
  refine useNum hb' h4.lo h4.hi rfl fun sh _ _ h5 => ?_
  obtain ⟨A5, Ish⟩ := at_num (fun q => q.sh) A4 (fun q h1 _ => ⟨flds_head rfl, n8_get h1 (by simp [MsgX.n8])⟩) h5
  conv => whnf
  refine useNum hb' h5.lo h5.hi rfl fun nu _ _ h6 => ?_
  obtain ⟨A6, Inu⟩ := at_num (fun q => q.num) A5 (fun q h1 _ => ⟨flds_head rfl, n8_get h1 (by simp [MsgX.n8])⟩) h6
  conv => whnf
  refine useNum hb' h6.lo h6.hi rfl fun st _ _ h7 => ?_
  obtain ⟨A7, Ist⟩ := at_num (fun q => q.st) A6 (fun q h1 _ => ⟨flds_head rfl, n8_get h1 (by simp [MsgX.n8])⟩) h7
  conv => whnf
  refine useNum hb' h7.lo h7.hi rfl fun ak _ _ h8 => ?_
  obtain ⟨A8, Iak⟩ := at_num (fun q => q.ask.k) A7 (fun q h1 _ => ⟨flds_head rfl, n8_get h1 (by simp [MsgX.n8])⟩) h8
  conv => whnf
  refine useTxt hb' h8.lo h8.hi rfl fun u _ _ h9 => ?_
  obtain ⟨A9, Iu⟩ := at_txt (fun q => q.ask.u) A8 (fun q h1 _ => ⟨flds_head rfl, t4_get h1 (by simp [MsgX.t4])⟩) h9
  conv => whnf
  refine useTxt hb' h9.lo h9.hi rfl fun v _ _ h10 => ?_
  obtain ⟨A10, Iv⟩ := at_txt (fun q => q.ask.v) A9 (fun q h1 _ => ⟨flds_head rfl, t4_get h1 (by simp [MsgX.t4])⟩) h10
  conv => whnf
  refine useTxt hb' h10.lo h10.hi rfl fun lo _ _ h11 => ?_
  obtain ⟨A11, Ilo⟩ := at_txt (fun q => q.ask.r.lo) A10 (fun q h1 _ => ⟨flds_head rfl, t4_get h1 (by simp [MsgX.t4])⟩) h11
  conv => whnf
  refine useTxt hb' h11.lo h11.hi rfl fun hi _ _ h12 => ?_
  obtain ⟨A12, Ihi⟩ := at_txt (fun q => q.ask.r.hi) A11 (fun q h1 _ => ⟨flds_head rfl, t4_get h1 (by simp [MsgX.t4])⟩) h12
  conv => whnf
  refine useNum hb' h12.lo h12.hi rfl fun an _ _ h13 => ?_
  obtain ⟨A13, Ian⟩ := at_num (fun q => q.ask.n) A12 (fun q h1 _ => ⟨flds_head rfl, n4_get h1 (by simp [MsgX.n4])⟩) h13
  conv => whnf
  refine useNum hb' h13.lo h13.hi rfl fun bk _ _ h14 => ?_
  obtain ⟨A14, Ibk⟩ := at_num (fun q => bitN q.ask.b) A13 (fun q h1 _ => ⟨flds_head rfl, n4_get h1 (by simp [MsgX.n4])⟩) h14
  conv => whnf
  refine useNum hb' h14.lo h14.hi rfl fun co _ _ h15 => ?_
  obtain ⟨A15, Ico⟩ := at_num (fun q => q.code) A14 (fun q h1 _ => ⟨flds_head rfl, n4_get h1 (by simp [MsgX.n4])⟩) h15
  conv => whnf
  refine ⟨⟨⟨b, _, _, hb', h15.lo, h15.hi⟩, 8, by decide⟩, rfl, ?_⟩
  rintro _ _ ⟨m, a, bad, rfl, rfl, hM⟩
  obtain ⟨A16, Im⟩ := at_many A15 hM
  obtain ⟨m1, m2⟩ := hM.num
  replace m2 : m ≤ 8 := m2
  have hlo := hM.lo
  have hhi := hM.hi
  conv => whnf
  refine ⟨[.nlc 80 0 15 200], ?_⟩
  conv => whnf
  refine ⟨2, RngX, RngX.ds, fun _ => rfl, ?_⟩
  conv => whnf
  let S (i : Nat) : Sl := [(77, .lf (.int .i64 i)), (76, .lf (.int .i64 m)), (5, .pt 80 0 0), (4, .pt 224 0 0), (2, .pt 32 0 0), (0, .sl 0 none)]
  let H (a : Int) (bad : Bool) (ps : List RngX) : Hp := [(80, some (.arr true 17 [[.lf (.int .i64 k), .lf (.int .i64 c), .lf (.int .i64 e), .lf (.int .i64 n), .lf (.int .i64 sh), .lf (.int .i64 nu), .lf (.int .i64 st), .lf (.int .i64 ak), .lf (.string u), .lf (.string v), .lf (.string lo), .lf (.string hi), .lf (.int .i64 an), .lf (.bool (bk == 1)), .lf (.int .i64 co), .sl 3200 none, .lf (.bool false)]])),
    (3200, some (.row .own 2 RngX.ds ps)), (224, some (.arr true 3 [[.sl 3216 none, .lf (.int .i64 a), .lf (.bool bad)]])), (3216, some (.row .ro 1 encB b)), (0, some (.row .ro 1 encB b)), (32, some (.arr true 17 [msgZ]))]
  refine ⟨fun z s h => ∃ (i : Nat) (a : Int) (bad : Bool) (ps : List RngX), (i : Int) ≤ m ∧ ps.length = i ∧ -9223372036854775808 ≤ a ∧ a ≤ 9223372036854775807 ∧ At b (16 + 2 * i) a bad ∧ IsOf b ps (fun q => q.ps.take i) ∧ z = m.toNat - i ∧ s = S i ∧ h = H a bad ps,
    m.toNat, [(80, 80), (3200, 3200), (224, 224), (nm 75, 3216), (0, 0), (32, 32)], S 0, H a bad [], ?_, ⟨0, a, bad, [], m1, rfl, hlo, hhi, A16, fun q _ _ => rfl, rfl, rfl, rfl⟩, ?_⟩
  · exact ⟨rfl, ⟨rfl, rfl, rfl, rfl, rfl, rfl, trivial⟩, rfl, rfl, rfl, by rfl, rfl, rfl, trivial⟩
  clear A16 hlo hhi
  rintro z _ _ ⟨i, a, bad, ps, g1, g2, hlo, hhi, hA, hP, rfl, rfl, rfl⟩
  conv => whnf
  refine br2 (fun h5 => ?_) (fun h5 => ?_)
  · have him : (i : Int) < m := of_decide_eq_true h5
    have hget : ∀ q, MsgOkP q → msgL q = b → ∃ p, q.ps[i]? = some p ∧ p.lo.size ≤ 20 ∧ p.hi.size ≤ 20 := fun q e1 e2 => by
      have e3 : m = (q.ps.length : Int) := Im q e1 e2
      obtain ⟨p, hp⟩ := getL (l := q.ps) (show i < q.ps.length by omega)
      have := (msg_f e1).ps p (List.mem_of_getElem? hp)
      exact ⟨p, hp, by omega, by omega⟩
    conv => whnf
    refine useTxt hb' hlo hhi rfl fun t1 _ _ g3 => ?_
    obtain ⟨B1, J1⟩ := at_txt (fun q => ((q.ps[i]?).getD rng0).lo) hA (fun q e1 e2 => by
      obtain ⟨p, hp, z1, z2⟩ := hget q e1 e2
      exact ⟨by rw [hp]; exact (flds_pair hp).1, by rw [hp]; exact z1⟩) g3
    conv => whnf
    refine useTxt hb' g3.lo g3.hi rfl fun t2 _ _ g4 => ?_
    obtain ⟨B2, J2⟩ := at_txt (fun q => ((q.ps[i]?).getD rng0).hi) B1 (fun q e1 e2 => by
      obtain ⟨p, hp, z1, z2⟩ := hget q e1 e2
      exact ⟨by rw [hp]; exact (flds_pair hp).2, by rw [hp]; exact z2⟩) g4
    have hP2 : IsOf b (ps ++ [⟨t1, t2⟩]) (fun q => q.ps.take (i + 1)) := fun q e1 e2 => by
      obtain ⟨p, hp, z1, z2⟩ := hget q e1 e2
      have j1 := J1 q e1 e2
      have j2 := J2 q e1 e2
      simp only [hp, Option.getD_some] at j1 j2
      show ps ++ [⟨t1, t2⟩] = q.ps.take (i + 1)
      rw [List.take_add_one, hp, hP q e1 e2, j1, j2]; rfl
    conv => whnf
    refine ⟨[⟨t1, t2⟩], rfl, (show ps.length + 1 ≤ 4294967296 by omega), ?_⟩
    conv => whnf
    have hw : V.lf (.int .i64 (IntKind.i64.wrap ((i : Int) + 1))) = V.lf (.int .i64 ((i + 1 : Nat) : Int)) := by rw [w64 (by omega) (by omega)]; rfl
    refine ⟨m.toNat - (i + 1), [(80, 80), (1424, 3200), (224, 224), (nm 83, 3216), (0, 0), (32, 32)], S (i + 1), H _ _ (ps ++ [⟨t1, t2⟩]), by omega, ?_, i + 1, _, _, ps ++ [⟨t1, t2⟩], by omega, by simp; omega, g4.lo, g4.hi, B2, hP2, rfl, rfl, rfl⟩
    exact ⟨rfl, ⟨hw, rfl, rfl, rfl, rfl, rfl, trivial⟩, rfl, by rfl, rfl, by rfl, rfl, rfl, trivial⟩
  have him : (i : Int) = m := by have h6 : ¬ (i : Int) < m := of_decide_eq_false h5; omega
  conv => whnf
  refine useNum hb' hlo hhi rfl fun y _ bad' g3 => ?_
  obtain ⟨B1, J1⟩ := at_num (fun q => bitN q.yes) hA (fun q e1 e2 => by
    have e3 : m = (q.ps.length : Int) := Im q e1 e2
    obtain rfl : i = q.ps.length := by omega
    exact ⟨flds_last q, bit_num _⟩) g3
  conv => whnf
  let X : MsgX := ⟨k, ⟨c, e, n⟩, sh, nu, st, ⟨ak, u, v, ⟨lo, hi⟩, an, bk == 1⟩, co, ps, y == 1⟩
  have all : ∀ q, MsgOkP q → msgL q = b → bad' = false ∧ X = q := fun q e1 e2 => by
    refine ⟨(B1 q e1 e2).2, ?_⟩
    have e3 : m = (q.ps.length : Int) := Im q e1 e2
    have e4 : ps = q.ps.take i := hP q e1 e2
    rw [List.take_of_length_le (by omega)] at e4
    show MsgX.mk k ⟨c, e, n⟩ sh nu st ⟨ak, u, v, ⟨lo, hi⟩, an, bk == 1⟩ co ps (y == 1) = q
    rw [Ik q e1 e2, Ic q e1 e2, Ie q e1 e2, In q e1 e2, Ish q e1 e2, Inu q e1 e2, Ist q e1 e2, Iak q e1 e2, Iu q e1 e2, Iv q e1 e2, Ilo q e1 e2, Ihi q e1 e2, Ian q e1 e2, Ibk q e1 e2, Ico q e1 e2, e4, J1 q e1 e2, bitN_one, bitN_one]
  refine ⟨X, rfl, ?_⟩
  rintro _ _ ⟨rfl, l, okm, rfl, e1, e2⟩
  obtain ⟨f1, f2, f3, f4⟩ := msgRead_end all e1 e2
  conv => whnf
  have bad0 : ∀ {b' : Bool}, MsgReadR b msg0 false → ∃ (q : MsgX) (ok : Bool), [msg0.ds, [D.lf (.bool false)]] = [q.ds, [D.lf (.bool ok)]] ∧ MsgReadR b q ok := fun h => ⟨msg0, false, rfl, h⟩
  have out0 : MsgReadR b msg0 false → ∃ (q : MsgX) (ok : Bool), [msg0.ds, [D.lf (.bool false)]] = [q.ds, [D.lf (.bool ok)]] ∧ MsgReadR b q ok := fun h => ⟨msg0, false, rfl, h⟩
  have sB : b.length ≤ 1048576 := hb
  refine br2 (fun h1 => ?_) (fun h1 => ?_)
  · conv => whnf
    refine ⟨2, RngX, RngX.ds, fun _ => rfl, ?_⟩
    conv => whnf
    exact ⟨⟨rfl, out0 (f1 h1)⟩⟩
  conv => whnf
  refine br2 (fun h2 => ?_) (fun h2 => ?_)
  · conv => whnf
    refine ⟨2, RngX, RngX.ds, fun _ => rfl, ?_⟩
    conv => whnf
    exact ⟨⟨rfl, out0 (f2 (by simpa using h2))⟩⟩
  conv => whnf
  refine ⟨l, rfl, ?_⟩
  conv => whnf
  refine ⟨b, rfl, ?_⟩
  conv => whnf
  refine br2 (fun h3 => ?_) (fun h3 => ?_)
  · replace h3 : (!strEq (ofB l) (ofB b)) = true := h3
    rw [Bool.not_eq_true', strEq_no] at h3
    conv => whnf
    refine ⟨2, RngX, RngX.ds, fun _ => rfl, ?_⟩
    conv => whnf
    exact ⟨⟨rfl, out0 (f3 fun e => h3 (by rw [e]))⟩⟩
  · replace h3 : (!strEq (ofB l) (ofB b)) = false := h3
    rw [Bool.not_eq_false', strEq_iff] at h3
    have h4 : l = b := by rw [← bs_of l, h3, bs_of]
    conv => whnf
    exact ⟨⟨rfl, X, true, rfl, f4 (by simpa using h2) h4⟩⟩
theorem iMsgReadK_ok : FnOk Try.prog 35 cMsgReadK := fnOk_of fun x => fnX_at tab_ok (SOk.cons gh_ok (SOk.cons scanNumS_ok (SOk.cons scanTextS_ok (SOk.cons scanManyS_ok (SOk.cons iMsgBytes_ok SOk.nil))))) mixed (fn := Try.f35) (code := body Try.f35) ⟨Try.func35, rfl, by kernel_rfl, by kernel_rfl, by kernel_rfl, by kernel_rfl⟩ (ev_iMsgReadK x)
theorem noSh_msg (q : MsgX) : ∀ d ∈ q.ds, NoSh d := by
  intro d hd
  simp only [MsgX.ds, List.mem_cons, List.not_mem_nil, or_false] at hd
  rcases hd with rfl | rfl | rfl | rfl | rfl | rfl | rfl | rfl | rfl | rfl | rfl | rfl | rfl | rfl | rfl | rfl | rfl <;> first | exact .lf | skip
  refine .row fun i f hi hf => ?_
  obtain ⟨y, hy⟩ := getL hi
  unfold dat
  rw [hy]
  rcases (show f = 0 ∨ f = 1 by omega) with rfl | rfl <;> exact .lf
def cMsgReadC : Con := cMsgReadK.rd
theorem msgRead_ns : ∀ x outs res, cMsgReadK.post x outs res → (∀ ds ∈ outs, ∀ d ∈ ds, NoSh d) ∧ ∀ ds ∈ res, ∀ d ∈ ds, NoSh d := by
  rintro x _ _ ⟨rfl, q, ok, rfl, h⟩
  refine ⟨fun ds hd => (by cases hd), fun ds hd d hd2 => ?_⟩
  simp only [List.mem_cons, List.not_mem_nil, or_false] at hd
  rcases hd with rfl | rfl
  · exact noSh_msg q d hd2
  · simp only [List.mem_cons, List.not_mem_nil, or_false] at hd2
    subst hd2; exact .lf
theorem iMsgRead_ok : FnOk Try.prog 35 cMsgReadC := FnOk.rd iMsgReadK_ok rfl msgRead_ns
end Go.Vm
namespace Go.Vm
open Go.Proofs
set_option maxRecDepth 100000
set_option linter.unusedVariables false
set_option linter.unusedSimpArgs false

def cDrawMsg : Con := { X := CodeX, params := [(.keep, false)], res := [true], resOwn := true, ins := fun c => [[.row 1 encB c.b]], post := fun _ outs r => outs = [] ∧ ∃ q : MsgX, r = [q.ds] }
theorem ev_drawMsgBytes : ∀ x, evFnX tab [(107, cNew), (108, (cDraw true msgE (msgP 100)))] cDrawMsg Try.f37 (body Try.f37) x := by
  rintro ⟨l, hb⟩
  conv => whnf
  refine ⟨⟨l, hb⟩, rfl, ?_⟩
  rintro _ _ ⟨rfl, c, rfl⟩
  conv => whnf
  refine useDraw (c := c) rfl fun c r _ => ?_
  conv => whnf
  exact ⟨⟨rfl, r, rfl⟩⟩
theorem drawMsgBytes_ok : FnOk Try.prog 37 cDrawMsg := fnOk_of fun x => fnX_at tab_ok (SOk.cons l01New_ok (SOk.cons l09Any_ok SOk.nil)) mixed (fn := Try.f37) (code := body Try.f37) ⟨Try.func37, rfl, by kernel_rfl, by kernel_rfl, by kernel_rfl, by kernel_rfl⟩ (ev_drawMsgBytes x)
structure LawX where
  b : List UInt8
def cLawB : Con := { X := LawX, params := [(.keep, false)], res := [false], resOwn := true, ins := fun c => [[.row 1 encB c.b]], post := fun _ outs r => outs = [] ∧ r = [[.lf (.bool true)]] }
theorem msgL_ne (q : MsgX) : msgL q ≠ [] := by
  intro h
  have := congrArg List.length h
  have h2 := varB_pos (bitN q.yes).toNat
  simp only [msgL, List.length_append, List.length_nil] at this
  omega
theorem msgL_len' {x : MsgX} (h : MsgOkP x) : (msgL x).length ≤ 1000 := by
  obtain ⟨f1, f2, f3, f4, f5⟩ := msg_f h
  have a1 := numsL_len f1
  have a2 := txtsL_len f2
  have a3 := numsL_len f3
  have a4 := pairsL_len f5
  have a5 := varB_len6 (n := (bitN x.yes).toNat) (by cases x.yes <;> decide)
  have b1 : x.n8.length = 8 := rfl
  have b2 : x.t4.length = 4 := rfl
  have b3 : x.n4.length = 4 := rfl
  simp only [msgL, List.length_append]
  omega
theorem ev_lawMsg : ∀ x, evFnX tab [(37, cDrawMsg), (27, cMsgBytes), (38, cMsgOk), (35, cMsgReadC), (25, cMsgBytes)] cLawB Try.f6 (body Try.f6) x := by
  rintro ⟨c⟩
  conv => whnf
  intro _
  conv => whnf
  refine br2 (fun h0 => ?_) (fun h0 => ?_)
  · conv => whnf
    exact ⟨⟨rfl, rfl⟩⟩
  have hb : c.length ≤ 1048576 := by have h1 : ¬ (c.length : Int) > 1048576 := of_decide_eq_false h0; omega
  clear h0
  conv => whnf
  refine ⟨⟨c, hb⟩, rfl, ?_⟩
  rintro _ _ ⟨rfl, x, rfl⟩
  conv => whnf
  refine ⟨x, rfl, ?_⟩
  rintro _ _ ⟨rfl, l, b, rfl, a1, a2⟩
  conv => whnf
  refine ⟨x, rfl, ?_⟩
  rintro _ _ ⟨rfl, b', rfl, a3⟩
  by_cases hx : MsgOkP x
  · obtain ⟨rfl, rfl⟩ := a1 hx
    obtain rfl : b' = true := a3.2 hx
    clear a1 a2 a3
    have hl := msgL_len' hx
    conv => whnf
    refine ⟨⟨msgL x, by omega⟩, rfl, ?_⟩
    rintro _ _ ⟨rfl, q, ok, rfl, e1⟩
    obtain ⟨rfl, rfl⟩ := e1.all x hx rfl
    clear e1
    conv => whnf
    refine ⟨q, rfl, ?_⟩
    rintro _ _ ⟨rfl, l', b', rfl, a3, a4⟩
    obtain ⟨rfl, rfl⟩ := a3 hx
    clear a3 a4
    conv => whnf
    refine ⟨msgL q, rfl, ?_⟩
    conv => whnf
    refine ⟨msgL q, rfl, ?_⟩
    conv => whnf
    have y1 : strEq (ofB (msgL q)) (ofB (msgL q)) = true := strEq_refl _
    refine br2 (fun _ => ?_) (fun h => absurd (y1.symm.trans h) (by simp))
    conv => whnf
    have y2 : (q.k == q.k) = true := by simp
    refine br2 (fun _ => ?_) (fun h => absurd (y2.symm.trans h) (by simp))
    conv => whnf
    refine ⟨⟨rfl, ?_⟩⟩
    show [[D.lf (.bool (q.tx.c == q.tx.c && (q.tx.e == q.tx.e && (q.tx.n == q.tx.n && true))))]] = _
    simp
  · obtain ⟨rfl, rfl⟩ := a2 hx
    obtain rfl : b' = false := by cases b' with | true => exact absurd (a3.1 rfl) hx | false => rfl
    clear a1 a2 a3
    conv => whnf
    refine ⟨⟨[], by decide⟩, rfl, ?_⟩
    rintro _ _ ⟨rfl, q, ok, rfl, e1⟩
    obtain rfl : ok = false := by cases ok with | true => exact absurd (e1.yes rfl).2 (msgL_ne q) | false => rfl
    conv => whnf
    exact ⟨⟨rfl, rfl⟩⟩
theorem lawMsg_ok : FnOk Try.prog 6 cLawB := fnOk_of fun x => fnX_at tab_ok (SOk.cons drawMsgBytes_ok (SOk.cons iMsgBytes_ok (SOk.cons sMsgOk_ok (SOk.cons iMsgRead_ok (SOk.cons sMsgBytes_ok SOk.nil))))) mixed (fn := Try.f6) (code := body Try.f6) ⟨Try.func6, rfl, by kernel_rfl, by kernel_rfl, by kernel_rfl, by kernel_rfl⟩ (ev_lawMsg x)
end Go.Vm
