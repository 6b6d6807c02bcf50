/- Contracts: words. -/
import Derived.Test.YtedffkngbjlgdaaGreatDoorVmT
import Derived.Lib.Bytealg
import Derived.Laws.Externs
namespace Go.Vm
open Go.Proofs

def body (f : Func) : Code := match f.body with | some c => c | none => .skip
/-- A function whose results are told by its parameters and that changes nothing. -/
def pureC (X : Type) (params : List (Mode × Bool)) (res : List Bool) (ins : X → List (List D)) (f : X → List (List D)) : Con :=
  { X := X, params := params, res := res, resOwn := true, ins := ins, post := fun x outs r => outs = [] ∧ r = f x }
/-- One of whose results something is known. -/
def relC (X : Type) (params : List (Mode × Bool)) (res : List Bool) (ins : X → List (List D)) (R : X → List (List D) → Prop) : Con :=
  { X := X, params := params, res := res, resOwn := true, ins := ins, post := fun x outs r => outs = [] ∧ R x r }

theorem SOk.nil {P : Program} : SOk P [] := fun p hp => by simp at hp
theorem SOk.cons {P : Program} {f : Nat} {c : Con} {S : Cons} (h : FnOk P f c) (hs : SOk P S) : SOk P ((f, c) :: S) := fun p hp => by
  rcases List.mem_cons.1 hp with rfl | hp
  · exact h
  · exact hs p hp

/-- A mark: at this region moves are told that the program does not see. -/
def cGh : Con := { X := Empty, params := [], res := [], resOwn := true, ins := fun _ => [], post := fun _ _ _ => True }
theorem gh_ok {P : Program} {n : Nat} : FnOk P n cGh := fun x => nomatch x
theorem nthI {β : Type} {l : List β} {j : Nat} {y : β} (h : l[j]? = some y) : nth l ((j : Nat) : Int).toNat = some y := by rw [nth_eq, Int.toNat_natCast]; exact h
theorem getL {β : Type} {l : List β} {j : Nat} (h : j < l.length) : ∃ y, l[j]? = some y := ⟨_, List.getElem?_eq_getElem h⟩

theorem ltI {β : Type} {l : List β} {j : Nat} {y : β} (h : l[j]? = some y) : ((j : Nat) : Int) < ((l.length : Nat) : Int) := Int.ofNat_lt.2 (List.getElem?_eq_some_iff.1 h).1

theorem ixE {β : Type} {l : List β} {e : Int} {j : Nat} {y : β} (he : e = ((j : Nat) : Int)) (h : l[j]? = some y) : 0 ≤ e ∧ e < ((l.length : Nat) : Int) := by
  subst he; exact ⟨Int.natCast_nonneg _, ltI h⟩
theorem nthE {β : Type} {l : List β} {e : Int} {j : Nat} {y : β} (he : e = ((j : Nat) : Int)) (h : l[j]? = some y) : nth l e.toNat = some y := by
  subst he; exact nthI h

/-- Equality as a bool. -/
noncomputable def eqX {α : Type} (a b : α) : Bool := haveI := Classical.propDecidable (a = b); decide (a = b)
theorem eqX_iff {α : Type} {a b : α} : eqX a b = true ↔ a = b := by unfold eqX; simp
theorem eqX_no {α : Type} {a b : α} : eqX a b = false ↔ a ≠ b := by unfold eqX; simp
theorem eqX_refl {α : Type} (a : α) : eqX a a = true := eqX_iff.2 rfl
theorem w64 {n : Int} (h1 : -9223372036854775808 ≤ n) (h2 : n ≤ 9223372036854775807) : IntKind.i64.wrap n = n := by
  simp [IntKind.wrap, IntKind.bits, IntKind.signed]; omega
/-- One more. -/
theorem incI {i n : Nat} (h : i < n) (hn : n ≤ 9223372036854775807) : V.lf (.int .i64 (IntKind.i64.wrap ((i : Int) + 1))) = V.lf (.int .i64 ((i + 1 : Nat) : Int)) := by rw [w64 (by omega) (by omega)]; rfl
/-- The byte of a number. -/
def b8 (n : Int) : UInt8 := UInt8.ofNat (n % 256).toNat
theorem w8 (n : Int) : IntKind.u8.wrap n = ((b8 n).toNat : Int) := by
  simp [IntKind.wrap, IntKind.bits, IntKind.signed, b8]
  omega
theorem encB_len (a : UInt8) : (encB a).length = 1 := rfl
theorem flat_encB (a : UInt8) : flatL (encB a) = true := rfl
theorem u8_of {n : Int} {k : Nat} (h : n = k) (hk : k < 256) : IntKind.u8.wrap n = ((UInt8.ofNat k).toNat : Int) := by
  subst h
  rw [w8]
  congr 2
  unfold b8
  congr 1
  omega
theorem enc_u8 {n : Int} {k : Nat} (h : n = k) (hk : k < 256) : [UInt8.ofNat k].map encB = [[.lf (.int .u8 (IntKind.u8.wrap n))]] := by rw [u8_of h hk]; rfl
theorem tmodN (n : Nat) (k : Nat) : (n : Int).tmod k = ((n % k : Nat) : Int) := by rw [Int.tmod_eq_emod_of_nonneg (by omega)]; rfl
theorem tdivN (n : Nat) (k : Nat) : (n : Int).tdiv k = ((n / k : Nat) : Int) := by rw [Int.tdiv_eq_ediv_of_nonneg (by omega)]; rfl

theorem tmod128 (n : Nat) : (n : Int).tmod 128 = ((n % 128 : Nat) : Int) := tmodN n 128
theorem tmod10 (n : Nat) : (n : Int).tmod 10 = ((n % 10 : Nat) : Int) := tmodN n 10
theorem tdiv10 (n : Nat) : (n : Int).tdiv 10 = ((n / 10 : Nat) : Int) := tdivN n 10

/-- A number in base 128. -/
def varB (n : Nat) : List UInt8 := if n < 128 then [UInt8.ofNat n] else UInt8.ofNat (n % 128 + 128) :: varB (n / 128)
theorem varB_lt {n : Nat} (h : n < 128) : varB n = [UInt8.ofNat n] := by rw [varB, if_pos h]
theorem varB_ge {n : Nat} (h : ¬ n < 128) : varB n = UInt8.ofNat (n % 128 + 128) :: varB (n / 128) := by rw [varB, if_neg h]
end Go.Vm
namespace Go.Vm
open Go.Proofs
set_option maxRecDepth 100000
set_option linter.unusedVariables false
set_option linter.unusedSimpArgs false

theorem varB_le {k n : Nat} (h : n < 128 ^ k) (hk : 0 < k) : (varB n).length ≤ k := by
  have key : ∀ k n, n < 128 ^ k → 0 < k → (varB n).length ≤ k := by
    intro k
    induction k with
    | zero => intro n h h0; omega
    | succ k ih =>
      intro n h _
      by_cases hn : n < 128
      · rw [varB_lt hn]; simp
      · rw [varB_ge hn]
        rw [Nat.pow_succ] at h
        have : n / 128 < 128 ^ k := Nat.div_lt_of_lt_mul (by omega)
        have hk : 0 < k := by
          rcases Nat.eq_zero_or_pos k with rfl | h1
          · simp at h; omega
          · exact h1
        have := ih _ this hk
        simp; omega
  exact key k n h hk
theorem varB_len {n : Nat} (h : n ≤ 9223372036854775807) : (varB n).length ≤ 10 := varB_le (by omega) (by omega)
theorem varB_len6 {n : Nat} (h : n ≤ 1099511627775) : (varB n).length ≤ 6 := varB_le (by omega) (by omega)
theorem varB_pos (n : Nat) : 1 ≤ (varB n).length := by
  by_cases h : n < 128
  · rw [varB_lt h]; simp
  · rw [varB_ge h]; simp
/-- The bytes of a text; a text behind its length. -/
def bs (s : ByteArray) : List UInt8 := s.data.toList
def encT (s : ByteArray) : List UInt8 := varB s.size ++ bs s
theorem bs_len (s : ByteArray) : (bs s).length = s.size := by simp [bs]
def ofB (l : List UInt8) : ByteArray := ⟨l.toArray⟩
theorem bs_of (l : List UInt8) : bs (ofB l) = l := by simp [bs, ofB]
theorem of_bs (s : ByteArray) : ofB (bs s) = s := by simp [bs, ofB]
theorem of_size (l : List UInt8) : (ofB l).size = l.length := by rw [← bs_len, bs_of]

structure VaryX where
  l : List UInt8
  n : Nat
  hl : l.length ≤ 4294967000
  hn : n ≤ 9223372036854775807
def cVary : Con := pureC VaryX [(.take, false), (.rd, false)] [false] (fun x => [[.row 1 encB x.l], [.lf (.int .i64 x.n)]]) (fun x => [[.row 1 encB (x.l ++ varB x.n)]])

theorem ev_vary : ∀ x, evFn tab [] cVary Tryz.f161 (body Tryz.f161) x := by
  rintro ⟨l, n, hl, hn⟩
  conv => whnf
  refine ⟨fun m s h => ∃ (l' : List UInt8) (n' : Nat), l ++ varB n = l' ++ varB n' ∧ n' ≤ 9223372036854775807 ∧ m = n' ∧ s = [(0, .sl 0 none), (1, .lf (.int .i64 n'))] ∧ h = [(0, some (.row .own 1 encB l'))],
    n, [(0, 0)], [(0, .sl 0 none), (1, .lf (.int .i64 n))], [(0, some (.row .own 1 encB l))], ⟨rfl, ⟨rfl, rfl, trivial⟩, ⟨rfl, trivial⟩⟩, ⟨l, n, rfl, hn, rfl, rfl, rfl⟩, ?_⟩
  rintro m _ _ ⟨l', n', h1, h2, rfl, rfl, rfl⟩
  have hlen := congrArg List.length h1
  have hv := varB_len hn
  simp only [List.length_append] at hlen
  conv => whnf
  refine br2 (fun h3 => ?_) (fun h3 => ?_)
  · have h3' : ¬ m < 128 := by simp at h3; omega
    have hm : ((m : Int).tmod 128) = ((m % 128 : Nat) : Int) := tmodN m 128
    have hd : ((m : Int).tdiv 128) = ((m / 128 : Nat) : Int) := tdivN m 128
    rw [varB_ge h3'] at h1 hlen
    simp only [List.length_cons] at hlen
    conv => whnf
    refine ⟨[UInt8.ofNat (m % 128 + 128)], enc_u8 (by rw [hm, w64] <;> omega) (by omega), ?_, ?_⟩
    · show l'.length + 1 ≤ 4294967296; omega
    conv => whnf
    refine ⟨m / 128, [(208, 0)], [(0, .sl 0 none), (1, .lf (.int .i64 (m / 128 : Nat)))], [(0, some (.row .own 1 encB (l' ++ [UInt8.ofNat (m % 128 + 128)])))], by omega, ⟨rfl, ⟨rfl, ?_, trivial⟩, ⟨rfl, trivial⟩⟩, _, _, ?_, ?_, rfl, rfl, rfl⟩
    · show V.lf (.int .i64 (IntKind.i64.wrap ((m : Int).tdiv 128))) = _
      rw [hd, w64] <;> omega
    · rw [h1]; simp
    · omega
  · have h3' : m < 128 := by simp at h3; omega
    rw [varB_lt h3'] at h1 hlen
    simp at hlen
    conv => whnf
    refine ⟨[UInt8.ofNat m], enc_u8 rfl (by omega), ?_, ?_⟩
    · show l'.length + 1 ≤ 4294967296; omega
    conv => whnf
    refine ⟨⟨rfl, ?_⟩⟩
    show _ = [[D.row 1 encB (l ++ varB n)]]
    rw [h1]; rfl
theorem vary_ok : FnOk Tryz.prog 161 cVary := fnOk_of fun x => fn_at tab_ok (SOk.nil) mixed (fn := Tryz.f161) (code := body Tryz.f161) ⟨Tryz.func161, rfl, by kernel_rfl, by kernel_rfl, by kernel_rfl, by kernel_rfl⟩ (ev_vary x)

structure TextX where
  l : List UInt8
  s : ByteArray
  hl : l.length ≤ 4000000000
  hs : s.size ≤ 100000000
def cText : Con := pureC TextX [(.take, false), (.rd, false)] [false] (fun x => [[.row 1 encB x.l], [.lf (.string x.s)]]) (fun x => [[.row 1 encB (x.l ++ encT x.s)]])
theorem ev_iText : ∀ x, evFn tab [(161, cVary)] cText Tryz.f107 (body Tryz.f107) x := by
  rintro ⟨l, s, hl, hs⟩
  conv => whnf
  refine ⟨⟨l, s.size, by omega, by omega⟩, rfl, ?_⟩
  rintro _ _ ⟨rfl, rfl⟩
  conv => whnf
  refine ⟨bs s, rfl, ?_, ?_⟩
  · show (l ++ varB s.size).length + (bs s).length ≤ 4294967296
    have := varB_len (n := s.size) (by omega)
    rw [bs_len, List.length_append]; omega
  conv => whnf
  refine ⟨⟨rfl, ?_⟩⟩
  show [[D.row 1 encB (l ++ varB s.size ++ bs s)]] = _
  simp [encT, List.append_assoc]
theorem iText_ok : FnOk Tryz.prog 107 cText := fnOk_of fun x => fn_at tab_ok (SOk.cons vary_ok SOk.nil) mixed (fn := Tryz.f107) (code := body Tryz.f107) ⟨Tryz.func107, rfl, by kernel_rfl, by kernel_rfl, by kernel_rfl, by kernel_rfl⟩ (ev_iText x)

structure IX where
  n : Int
  h1 : -9223372036854775808 ≤ n
  h2 : n ≤ 9223372036854775807
def numB (n : Int) : Bool := decide (0 ≤ n) && decide (n ≤ 1099511627775)
def cNum : Con := pureC IX [(.rd, false)] [false] (fun x => [[.lf (.int .i64 x.n)]]) (fun x => [[.lf (.bool (numB x.n))]])
theorem ev_l01Num : ∀ x, evFn tab [] cNum Tryz.f121 (body Tryz.f121) x := by
  rintro ⟨n, h1, h2⟩
  repeat' ((conv => whnf); refine br2 (fun h => ?_) (fun h => ?_))
  all_goals (conv => whnf)
  all_goals refine ⟨⟨rfl, ?_⟩⟩
  all_goals simp_all [numB] <;> omega
theorem l01Num_ok : FnOk Tryz.prog 121 cNum := fnOk_of fun x => fn_at tab_ok (SOk.nil) mixed (fn := Tryz.f121) (code := body Tryz.f121) ⟨Tryz.func121, rfl, by kernel_rfl, by kernel_rfl, by kernel_rfl, by kernel_rfl⟩ (ev_l01Num x)

structure PutX where
  l : List UInt8
  n : Int
  hl : l.length ≤ 4294967000
  h1 : -9223372036854775808 ≤ n
  h2 : n ≤ 9223372036854775807
def putB (l : List UInt8) (n : Int) : Bool := numB n && decide (l.length + (varB n.toNat).length ≤ 4096)
def putL (l : List UInt8) (n : Int) : List UInt8 := if putB l n then l ++ varB n.toNat else []
def cPutVar : Con := pureC PutX [(.rd, false), (.rd, false)] [false, false] (fun x => [[.row 1 encB x.l], [.lf (.int .i64 x.n)]]) (fun x => [[.row 1 encB (putL x.l x.n)], [.lf (.bool (putB x.l x.n))]])
theorem ev_putVar : ∀ x, evFn tab [(121, cNum)] cPutVar Tryz.f192 (body Tryz.f192) x := by
  rintro ⟨l, n, hl, h1, h2⟩
  conv => whnf
  refine ⟨⟨n, h1, h2⟩, rfl, ?_⟩
  rintro _ _ ⟨rfl, rfl⟩
  conv => whnf
  refine br2 (fun h3 => ?_) (fun h3 => ?_)
  · have h3' : numB n = false := by simpa using h3
    conv => whnf
    refine ⟨1, UInt8, encB, encB_len, ?_⟩
    conv => whnf
    refine ⟨⟨rfl, ?_⟩⟩
    show _ = [[D.row 1 encB (putL l n)], [D.lf (.bool (putB l n))]]
    simp [putL, putB, h3']
  · have h3' : numB n = true := by simpa using h3
    obtain ⟨h4, h5⟩ : 0 ≤ n ∧ n ≤ 1099511627775 := by simpa [numB] using h3'
    obtain ⟨k, rfl⟩ : ∃ k : Nat, n = k := ⟨n.toNat, by omega⟩
    conv => whnf
    refine ⟨true, ?_⟩
    conv => whnf
    refine ⟨UInt8, encB, [], encB_len, rfl, ?_⟩
    conv => whnf
    refine ⟨flat_encB, l, rfl, ?_, ?_⟩
    · show 0 + l.length ≤ 4294967296; omega
    conv => whnf
    refine ⟨fun m s h => ∃ (l' : List UInt8) (n' : Nat), l ++ varB k = l' ++ varB n' ∧ n' ≤ 1099511627775 ∧ m = n' ∧ s = [(6, .sl 0 none), (1, .lf (.int .i64 n')), (4, .lf (.slice none 0 0)), (5, .lf (.bool false))] ∧ h = [(0, some (.row .own 1 encB l'))],
      k, [(192, 0)], [(6, .sl 0 none), (1, .lf (.int .i64 k)), (4, .lf (.slice none 0 0)), (5, .lf (.bool false))], [(0, some (.row .own 1 encB l))], ⟨rfl, ⟨rfl, rfl, rfl, rfl, trivial⟩, ⟨rfl, trivial⟩⟩, ⟨l, k, rfl, by omega, rfl, rfl, rfl⟩, ?_⟩
    rintro m _ _ ⟨l', n', e1, e2, rfl, rfl, rfl⟩
    have hlen := congrArg List.length e1
    have hv := varB_len6 (n := k) (by omega)
    simp only [List.length_append] at hlen
    conv => whnf
    refine br2 (fun g3 => ?_) (fun g3 => ?_)
    · have g3' : ¬ m < 128 := by simp at g3; omega
      have hm : ((m : Int).tmod 128) = ((m % 128 : Nat) : Int) := tmodN m 128
      have hd : ((m : Int).tdiv 128) = ((m / 128 : Nat) : Int) := tdivN m 128
      rw [varB_ge g3'] at e1 hlen
      simp only [List.length_cons] at hlen
      conv => whnf
      refine ⟨[UInt8.ofNat (m % 128 + 128)], enc_u8 (by rw [hm, w64] <;> omega) (by omega), ?_, ?_⟩
      · show l'.length + 1 ≤ 4294967296; omega
      conv => whnf
      refine ⟨m / 128, [(336, 0)], [(6, .sl 0 none), (1, .lf (.int .i64 (m / 128 : Nat))), (4, .lf (.slice none 0 0)), (5, .lf (.bool false))], [(0, some (.row .own 1 encB (l' ++ [UInt8.ofNat (m % 128 + 128)])))], by omega, ⟨rfl, ⟨rfl, ?_, rfl, rfl, trivial⟩, ⟨rfl, trivial⟩⟩, _, _, ?_, ?_, rfl, rfl, rfl⟩
      · show V.lf (.int .i64 (IntKind.i64.wrap ((m : Int).tdiv 128))) = _
        rw [hd, w64] <;> omega
      · rw [e1]; simp
      · omega
    · have g3' : m < 128 := by simp at g3; omega
      rw [varB_lt g3'] at e1 hlen
      simp at hlen
      conv => whnf
      refine ⟨[UInt8.ofNat m], enc_u8 rfl (by omega), ?_, ?_⟩
      · show l'.length + 1 ≤ 4294967296; omega
      conv => whnf
      intro _
      conv => whnf
      have hL : (cutL none l' ++ [UInt8.ofNat m] : List UInt8) = l ++ varB k := e1.symm
      refine br2 (fun g4 => ?_) (fun g4 => ?_)
      · conv => whnf
        refine ⟨1, UInt8, encB, encB_len, ?_⟩
        conv => whnf
        refine ⟨⟨rfl, ?_⟩⟩
        rw [hL] at g4
        have : ¬ l.length + (varB k).length ≤ 4096 := by simp at g4; omega
        show _ = [[D.row 1 encB (putL l k)], [D.lf (.bool (putB l k))]]
        simp [putL, putB, this]
      · conv => whnf
        refine ⟨⟨rfl, ?_⟩⟩
        rw [hL] at g4
        have : l.length + (varB k).length ≤ 4096 := by simp at g4; omega
        show [[D.row 1 encB (cutL none (cutL none l' ++ [UInt8.ofNat m]))], _] = [[D.row 1 encB (putL l k)], [D.lf (.bool (putB l k))]]
        rw [hL]
        simp [putL, putB, this, h3', cutL]
theorem putVar_ok : FnOk Tryz.prog 192 cPutVar := fnOk_of fun x => fn_at tab_ok (SOk.cons l01Num_ok SOk.nil) mixed (fn := Tryz.f192) (code := body Tryz.f192) ⟨Tryz.func192, rfl, by kernel_rfl, by kernel_rfl, by kernel_rfl, by kernel_rfl⟩ (ev_putVar x)
end Go.Vm
namespace Go.Vm
open Go.Proofs
set_option maxRecDepth 100000
set_option linter.unusedVariables false
set_option linter.unusedSimpArgs false

structure PutTX where
  l : List UInt8
  s : ByteArray
  hl : l.length ≤ 4000000000
  hs : s.size ≤ 100000000
def putTB (l : List UInt8) (s : ByteArray) : Bool := decide (l.length + (encT s).length ≤ 4096)
def putTL (l : List UInt8) (s : ByteArray) : List UInt8 := if putTB l s then l ++ encT s else []
def cPutText : Con := pureC PutTX [(.rd, false), (.rd, false)] [false, false] (fun x => [[.row 1 encB x.l], [.lf (.string x.s)]]) (fun x => [[.row 1 encB (putTL x.l x.s)], [.lf (.bool (putTB x.l x.s))]])
theorem ev_sPutText : ∀ x, evFn tab [(192, cPutVar)] cPutText Tryz.f170 (body Tryz.f170) x := by
  rintro ⟨l, s, hl, hs⟩
  conv => whnf
  refine ⟨⟨l, s.size, by omega, by omega, by omega⟩, rfl, ?_⟩
  rintro _ _ ⟨rfl, rfl⟩
  have hT : (encT s).length = (varB s.size).length + s.size := by simp [encT, bs_len]
  have hn : numB (s.size : Int) = true := by simp [numB]; omega
  conv => whnf
  refine br2 (fun h3 => ?_) (fun h3 => ?_)
  · have h3' : putB l s.size = false := by simpa using h3
    conv => whnf
    refine ⟨1, UInt8, encB, encB_len, ?_⟩
    conv => whnf
    refine ⟨⟨rfl, ?_⟩⟩
    have : ¬ l.length + (varB s.size).length ≤ 4096 := by simpa [putB, hn] using h3'
    have h : putTB l s = false := by simp [putTB, hT]; omega
    show _ = [[D.row 1 encB (putTL l s)], [D.lf (.bool (putTB l s))]]
    simp [putTL, h]
  · have h3' : putB l s.size = true := by simpa using h3
    have h5 : l.length + (varB s.size).length ≤ 4096 := by simpa [putB, hn] using h3'
    have hL : putL l s.size = l ++ varB s.size := by simp [putL, h3']
    conv => whnf
    intro h6
    conv => whnf
    have hw : IntKind.i64.wrap (4096 - ((l ++ varB s.size).length : Int)) = 4096 - ((l ++ varB s.size).length : Int) := by simp only [List.length_append]; rw [w64] <;> omega
    refine br2 (fun h4 => ?_) (fun h4 => ?_)
    · conv => whnf
      refine ⟨1, UInt8, encB, encB_len, ?_⟩
      conv => whnf
      refine ⟨⟨rfl, ?_⟩⟩
      replace h4 : decide ((s.size : Int) > IntKind.i64.wrap (4096 - ((putL l s.size).length : Int))) = true := h4
      rw [hL, hw] at h4
      have h : putTB l s = false := by simp [putTB, hT]; simp at h4; omega
      show _ = [[D.row 1 encB (putTL l s)], [D.lf (.bool (putTB l s))]]
      simp [putTL, h]
    · conv => whnf
      replace h4 : decide ((s.size : Int) > IntKind.i64.wrap (4096 - ((putL l s.size).length : Int))) = false := h4
      rw [hL, hw] at h4
      have h : putTB l s = true := by simp [putTB, hT]; simp at h4; omega
      refine ⟨?_, ?_⟩
      · show s.size ≤ 4294967296; omega
      conv => whnf
      refine ⟨flat_encB, bs s, rfl, ?_, ?_⟩
      · show (putL l s.size).length + (bs s).length ≤ 4294967296
        rw [hL, bs_len, List.length_append]; omega
      conv => whnf
      refine ⟨⟨rfl, ?_⟩⟩
      show [[D.row 1 encB (putL l s.size ++ bs s)], _] = [[D.row 1 encB (putTL l s)], [D.lf (.bool (putTB l s))]]
      rw [hL]
      simp [putTL, h, encT, List.append_assoc]
theorem sPutText_ok : FnOk Tryz.prog 170 cPutText := fnOk_of fun x => fn_at tab_ok (SOk.cons putVar_ok SOk.nil) mixed (fn := Tryz.f170) (code := body Tryz.f170) ⟨Tryz.func170, rfl, by kernel_rfl, by kernel_rfl, by kernel_rfl, by kernel_rfl⟩ (ev_sPutText x)

/-! Numbers read -/
structure GetX where
  l : List UInt8
  a : Int
  hl : l.length ≤ 4294967296
  h1 : -9223372036854775808 ≤ a
  h2 : a ≤ 9223372036854775807
/-- What is read: a number and the place behind it; the number that stands there. -/
def GotN (l : List UInt8) (a n nx : Int) : Prop :=
  (nx = -1 ∧ n = 0 ∨ 0 ≤ n ∧ n ≤ 1099511627775 ∧ 0 ≤ a ∧ a < nx ∧ nx ≤ l.length) ∧
    ∀ (pre : List UInt8) (v : Nat) (post : List UInt8), l = pre ++ varB v ++ post → a = pre.length → v ≤ 1099511627775 → n = v ∧ nx = pre.length + (varB v).length
def cGetVar : Con := relC GetX [(.rd, false), (.rd, false)] [false, false] (fun x => [[.row 1 encB x.l], [.lf (.int .i64 x.a)]]) (fun x r => ∃ n nx : Int, r = [[.lf (.int .i64 n)], [.lf (.int .i64 nx)]] ∧ GotN x.l x.a n nx)

theorem gotN_none {l : List UInt8} {a : Int} (h : a < 0 ∨ (l.length : Int) ≤ a) : GotN l a 0 (-1) := by
  refine ⟨.inl ⟨rfl, rfl⟩, fun pre v post h1 h2 _ => ?_⟩
  have := congrArg List.length h1
  have := varB_pos v
  simp only [List.length_append] at *
  omega

/-- The digits so far: k of them, in sum n; what is left of the number that stands there. -/
structure Dig (l : List UInt8) (a : Nat) (k n : Nat) : Prop where
  lt : n < 128 ^ k
  rest : ∀ (pre : List UInt8) (v : Nat) (post : List UInt8), l = pre ++ varB v ++ post → a = pre.length → v ≤ 1099511627775 →
    ∃ v', l.drop (a + k) = varB v' ++ post ∧ v = n + 128 ^ k * v' ∧ (varB v).length = k + (varB v').length ∧ (1 ≤ k → 1 ≤ v')

theorem Dig.zero (l : List UInt8) (a : Nat) : Dig l a 0 0 := ⟨by simp, fun pre v post h1 h2 _ => ⟨v, by rw [h1, h2]; simp, by simp, by simp, by omega⟩⟩

theorem u8_lt (d : UInt8) : d.toNat < 256 := d.toNat_lt
theorem toNat_of {k : Nat} (h : k < 256) : (UInt8.ofNat k).toNat = k := by simp [UInt8.toNat_ofNat]; omega
theorem head_eq {x d : UInt8} {r : List UInt8} (h : (x :: r)[0]? = some d) : x = d := by simpa only [List.getElem?_cons_zero, Option.some.injEq] using h
theorem Dig.step {l : List UInt8} {a k n : Nat} (h : Dig l a k n) {d : UInt8} (hd : l[a + k]? = some d) (hge : 128 ≤ d.toNat) : Dig l a (k + 1) (n + d.toNat % 128 * 128 ^ k) := by
  refine ⟨?_, fun pre v post h1 h2 h3 => ?_⟩
  · have h4 := h.lt
    have h5 : d.toNat % 128 ≤ 127 := by omega
    have h6 : d.toNat % 128 * 128 ^ k ≤ 127 * 128 ^ k := Nat.mul_le_mul_right _ h5
    rw [Nat.pow_succ]; omega
  · obtain ⟨v', e1, e2, e3, e4⟩ := h.rest pre v post h1 h2 h3
    by_cases hv : v' < 128
    · exfalso
      rw [varB_lt hv] at e1
      have : (l.drop (a + k))[0]? = some d := by simpa using hd
      rw [e1] at this
      have := head_eq this
      subst this
      rw [toNat_of (by omega)] at hge
      omega
    · rw [varB_ge hv] at e1 e3
      have : (l.drop (a + k))[0]? = some d := by simpa using hd
      rw [e1] at this
      have := head_eq this
      subst this
      refine ⟨v' / 128, ?_, ?_, ?_, fun _ => by omega⟩
      · have := congrArg (List.drop 1) e1
        rw [List.drop_drop] at this
        simpa [Nat.add_assoc] using this
      · rw [toNat_of (by omega), e2, Nat.pow_succ]
        have h6 : (v' % 128 + 128) % 128 = v' % 128 := by omega
        rw [h6]
        have h7 : v' = v' % 128 + 128 * (v' / 128) := by omega
        calc n + 128 ^ k * v' = n + 128 ^ k * (v' % 128 + 128 * (v' / 128)) := by rw [← h7]
          _ = n + v' % 128 * 128 ^ k + 128 ^ k * 128 * (v' / 128) := by rw [Nat.mul_add, Nat.mul_comm (128 ^ k) (v' % 128), Nat.mul_assoc, Nat.add_assoc]
      · simp only [List.length_cons] at e3; omega
theorem Dig.last {l : List UInt8} {a k n : Nat} (h : Dig l a k n) {d : UInt8} (hd : l[a + k]? = some d) (hlt : d.toNat < 128) {pre : List UInt8} {v : Nat} {post : List UInt8} (h1 : l = pre ++ varB v ++ post) (h2 : a = pre.length) (h3 : v ≤ 1099511627775) :
    v = n + d.toNat * 128 ^ k ∧ (varB v).length = k + 1 ∧ (1 ≤ k → 1 ≤ d.toNat) := by
  obtain ⟨v', e1, e2, e3, e4⟩ := h.rest pre v post h1 h2 h3
  have h5 : (l.drop (a + k))[0]? = some d := by simpa using hd
  by_cases hv : v' < 128
  · rw [varB_lt hv] at e1 e3
    rw [e1] at h5
    have := head_eq h5
    subst this
    rw [toNat_of (by omega), Nat.mul_comm v']
    exact ⟨e2, e3, e4⟩
  · exfalso
    rw [varB_ge hv] at e1
    rw [e1] at h5
    have := head_eq h5
    subst this
    rw [toNat_of (by omega)] at hlt
    omega
theorem Dig.out {l : List UInt8} {a k n : Nat} (h : Dig l a k n) (hk : l.length ≤ a + k ∨ 6 ≤ k) (h0 : a + k ≤ l.length) : GotN l a 0 (-1) := by
  refine ⟨.inl ⟨rfl, rfl⟩, fun pre v post h1 h2 h3 => ?_⟩
  exfalso
  have h2' : a = pre.length := by omega
  obtain ⟨v', e1, e2, e3, e4⟩ := h.rest pre v post h1 h2' h3
  have h5 := varB_pos v'
  have h6 := varB_len6 h3
  have h7 := congrArg List.length e1
  simp only [List.length_append, List.length_drop] at h7
  omega

/-- The digits' number has so many digits just if the last one isn't nought. -/
theorem dig_len {n k d : Nat} (hn : n < 128 ^ k) (hd : d < 128) : (varB (n + d * 128 ^ k)).length = k + 1 ↔ (d ≠ 0 ∨ k = 0) := by
  have key : ∀ k n d, n < 128 ^ k → d < 128 → ((varB (n + d * 128 ^ k)).length = k + 1 ↔ (d ≠ 0 ∨ k = 0)) ∧ (varB (n + d * 128 ^ k)).length ≤ k + 1 := by
    intro k
    induction k with
    | zero =>
      intro n d hn hd
      have : n = 0 := by simpa using hn
      subst this
      rw [varB_lt (by omega)]; simp
    | succ k ih =>
      intro n d hn hd
      rw [Nat.pow_succ] at hn
      have h1 : n / 128 < 128 ^ k := Nat.div_lt_of_lt_mul (by omega)
      obtain ⟨i1, i2⟩ := ih (n / 128) d h1 hd
      have hdiv : (n + d * 128 ^ (k + 1)) / 128 = n / 128 + d * 128 ^ k := by
        rw [Nat.pow_succ, ← Nat.mul_assoc, Nat.add_mul_div_right _ _ (by omega : 0 < 128)]
      by_cases hlt : n + d * 128 ^ (k + 1) < 128
      · rw [varB_lt hlt]
        have : d = 0 := by
          rcases Nat.eq_zero_or_pos d with h | h
          · exact h
          · exfalso
            have : 128 ^ (k + 1) ≤ d * 128 ^ (k + 1) := Nat.le_mul_of_pos_left _ h
            have : 128 ≤ 128 ^ (k + 1) := by rw [Nat.pow_succ]; have : 128 ^ 0 ≤ 128 ^ k := Nat.pow_le_pow_right (by omega) (Nat.zero_le k); simp only [Nat.pow_zero] at this; omega
            omega
        subst this
        simp
      · rw [varB_ge hlt, hdiv]
        simp only [List.length_cons]
        constructor
        · rw [show (varB (n / 128 + d * 128 ^ k)).length + 1 = k + 1 + 1 ↔ (varB (n / 128 + d * 128 ^ k)).length = k + 1 by omega, i1]
          constructor
          · rintro (h | h)
            · exact .inl h
            · subst h
              have hn1 : n < 128 := by simpa using hn
              refine .inl fun h0 => hlt (by subst h0; simpa using hn1)
          · rintro (h | h)
            · exact .inl h
            · omega
        · omega
  exact (key k n d hn hd).1
end Go.Vm
namespace Go.Vm
open Go.Proofs
set_option maxRecDepth 100000
set_option linter.unusedVariables false
set_option linter.unusedSimpArgs false

theorem gotN_of {l : List UInt8} {a k n : Nat} (h : Dig l a k n) {d : UInt8} (hd : l[a + k]? = some d) (hlt : d.toNat < 128) (hm : n + d.toNat * 128 ^ k ≤ 1099511627775) : GotN l a ((n + d.toNat * 128 ^ k : Nat) : Int) ((a + k + 1 : Nat) : Int) := by
  have hl : a + k < l.length := (List.getElem?_eq_some_iff.1 hd).1
  refine ⟨.inr ⟨by omega, by omega, by omega, by omega, by omega⟩, fun pre v post h1 h2 h3 => ?_⟩
  obtain ⟨e1, e2, e3⟩ := h.last hd hlt h1 (by omega) h3
  omega
theorem gotN_bad {l : List UInt8} {a k n : Nat} (h : Dig l a k n) {d : UInt8} (hd : l[a + k]? = some d) (hlt : d.toNat < 128) (hm : ¬ n + d.toNat * 128 ^ k ≤ 1099511627775 ∨ (d.toNat = 0 ∧ 1 ≤ k)) : GotN l a 0 (-1) := by
  refine ⟨.inl ⟨rfl, rfl⟩, fun pre v post h1 h2 h3 => ?_⟩
  obtain ⟨e1, e2, e3⟩ := h.last hd hlt h1 (by omega) h3
  omega
theorem dig_bound {l : List UInt8} {a k n : Nat} (h : Dig l a k n) (hk : k ≤ 5) {d : Nat} (hd : d < 256) : 128 ^ k ≤ 34359738368 ∧ n < 34359738368 ∧ d % 128 * 128 ^ k ≤ 127 * 34359738368 := by
  have h1 : 128 ^ k ≤ 34359738368 := Nat.le_trans (Nat.pow_le_pow_right (by omega) hk) (by decide)
  have h2 := h.lt
  have h3 : d % 128 * 128 ^ k ≤ 127 * 34359738368 := Nat.mul_le_mul (by omega) h1
  exact ⟨h1, by omega, h3⟩

theorem ev_sGetVar : ∀ x, evFn tab [(192, cPutVar)] cGetVar Tryz.f168 (body Tryz.f168) x := by
  rintro ⟨l, a, hl, h1, h2⟩
  conv => whnf
  refine br2 (fun h3 => ?_) (fun h3 => ?_)
  · conv => whnf
    refine ⟨⟨rfl, 0, -1, rfl, gotN_none (.inl (by simpa using h3))⟩⟩
  conv => whnf
  intro h4
  conv => whnf
  refine br2 (fun h5 => ?_) (fun h5 => ?_)
  · conv => whnf
    refine ⟨⟨rfl, 0, -1, rfl, gotN_none (.inr (by simpa using h5))⟩⟩
  have h3' : 0 ≤ a := by simpa using h3
  have h5' : a < l.length := by simpa using h5
  obtain ⟨a, rfl⟩ : ∃ k : Nat, a = k := ⟨a.toNat, by omega⟩
  conv => whnf
  refine ⟨fun m s h => ∃ k n : Nat, Dig l a k n ∧ a + k ≤ l.length ∧ k ≤ 6 ∧ m = 6 - k ∧ s = [(0, .sl 0 none), (1, .lf (.int .i64 a)), (6, .lf (.int .i64 n)), (7, .lf (.int .i64 ((128 ^ k : Nat) : Int))), (8, .lf (.int .i64 ((a + k : Nat) : Int)))] ∧ h = [(0, some (.row .lent 1 encB l))],
    6, [(0, 0)], [(0, .sl 0 none), (1, .lf (.int .i64 a)), (6, .lf (.int .i64 0)), (7, .lf (.int .i64 1)), (8, .lf (.int .i64 a))], [(0, some (.row .lent 1 encB l))], ⟨rfl, ⟨rfl, rfl, rfl, rfl, rfl, trivial⟩, ⟨rfl, trivial⟩⟩, ⟨0, 0, Dig.zero l a, by omega, by omega, rfl, rfl, rfl⟩, ?_⟩
  rintro m _ _ ⟨k, n, hD, hk1, hk2, rfl, rfl, rfl⟩
  conv => whnf
  intro _
  conv => whnf
  refine br2 (fun g1 => ?_) (fun g1 => ?_)
  · conv => whnf
    refine br2 (fun g2 => ?_) (fun g2 => ?_)
    · have hk : a + k < l.length := by simp at g1; omega
      have hk5 : k ≤ 5 := by rw [w64] at g2 <;> first | omega | (simp at g2; omega)
      obtain ⟨d, hd⟩ : ∃ d, l[a + k]? = some d := ⟨_, List.getElem?_eq_getElem hk⟩
      have hd2 : nth l ((a + k : Nat) : Int).toNat = some d := by rw [nth_eq, Int.toNat_natCast]; exact hd
      have hd8 := u8_lt d
      obtain ⟨b1, b2, b3⟩ := dig_bound hD hk5 hd8
      have p1 : (0 : Int) ≤ ((128 ^ k : Nat) : Int) := Int.natCast_nonneg _
      have p2 : ((128 ^ k : Nat) : Int) ≤ 34359738368 := Int.ofNat_le.2 b1
      have hn1 : IntKind.i64.wrap ((n : Int) + IntKind.i64.wrap (((IntKind.i64.wrap (d.toNat : Int)).tmod 128) * ((128 ^ k : Nat) : Int))) = ((n + d.toNat % 128 * 128 ^ k : Nat) : Int) := by
        rw [w64 (n := (d.toNat : Int)) (by omega) (by omega), tmod128, ← Int.natCast_mul, w64 (n := ((d.toNat % 128 * 128 ^ k : Nat) : Int)) (by omega) (by omega), ← Int.natCast_add, w64 (by omega) (by omega)]
      conv => whnf
      refine ⟨by omega, by omega, ?_⟩
      conv => whnf
      refine ex2 d hd2 ?_
      conv => whnf
      refine ⟨by omega, by omega, ?_⟩
      conv => whnf
      refine ex2 d hd2 ?_
      conv => whnf
      refine br2 (fun g3 => ?_) (fun g3 => ?_)
      · have g3' : 128 ≤ d.toNat := by simp at g3; omega
        conv => whnf
        refine ⟨6 - (k + 1), [(0, 0)], [(0, .sl 0 none), (1, .lf (.int .i64 a)), (6, .lf (.int .i64 ((n + d.toNat % 128 * 128 ^ k : Nat) : Int))), (7, .lf (.int .i64 ((128 ^ (k + 1) : Nat) : Int))), (8, .lf (.int .i64 ((a + (k + 1) : Nat) : Int)))], [(0, some (.row .lent 1 encB l))], by omega, ⟨rfl, ⟨rfl, rfl, ?_, ?_, ?_, trivial⟩, ⟨rfl, trivial⟩⟩, k + 1, _, hD.step hd g3', by omega, by omega, rfl, rfl, rfl⟩
        · show V.lf (.int .i64 (IntKind.i64.wrap ((n : Int) + IntKind.i64.wrap (((IntKind.i64.wrap (d.toNat : Int)).tmod 128) * ((128 ^ k : Nat) : Int))))) = _
          rw [hn1]
        · show V.lf (.int .i64 (IntKind.i64.wrap (((128 ^ k : Nat) : Int) * 128))) = _
          rw [w64 (by omega) (by omega), Nat.pow_succ]; rfl
        · show V.lf (.int .i64 (IntKind.i64.wrap (((a + k : Nat) : Int) + 1))) = _
          rw [w64 (by omega) (by omega)]; rfl
      · have g3' : d.toNat < 128 := by simp at g3; omega
        have hm : d.toNat % 128 = d.toNat := Nat.mod_eq_of_lt g3'
        rw [hm] at hn1 b3
        conv => whnf
        refine ⟨1, UInt8, encB, encB_len, ?_⟩
        conv => whnf
        refine ⟨⟨[], ((n + d.toNat * 128 ^ k : Nat) : Int), by simp, by omega, by omega⟩, ?_, ?_⟩
        · show [[D.row 1 encB []], [D.lf (.int .i64 _)]] = [[D.row 1 encB []], [D.lf (.int .i64 _)]]
          rw [hn1]
        rintro _ _ ⟨rfl, rfl⟩
        have hN : numB ((n + d.toNat * 128 ^ k : Nat) : Int) = decide (n + d.toNat * 128 ^ k ≤ 1099511627775) := by
          simp only [numB]
          rw [show decide ((0 : Int) ≤ ((n + d.toNat * 128 ^ k : Nat) : Int)) = true from decide_eq_true (by omega), Bool.true_and]
          exact decide_eq_decide.2 (by omega)
        have hlen := dig_len hD.lt g3'
        have hle : (varB (n + d.toNat * 128 ^ k)).length ≤ 10 := varB_len (by omega)
        have hP : putB [] ((n + d.toNat * 128 ^ k : Nat) : Int) = decide (n + d.toNat * 128 ^ k ≤ 1099511627775) := by
          unfold putB
          rw [hN, Int.toNat_natCast, show decide (([] : List UInt8).length + (varB (n + d.toNat * 128 ^ k)).length ≤ 4096) = true from decide_eq_true (by simp; omega), Bool.and_true]
        conv => whnf
        refine br2 (fun g4 => ?_) (fun g4 => ?_)
        · conv => whnf
          replace g4 : (!putB [] ((n + d.toNat * 128 ^ k : Nat) : Int)) = true := g4
          rw [hP] at g4
          refine ⟨⟨rfl, 0, -1, rfl, gotN_bad hD hd g3' (.inl (by simpa using g4))⟩⟩
        · replace g4 : (!putB [] ((n + d.toNat * 128 ^ k : Nat) : Int)) = false := g4
          rw [hP] at g4
          have g4' : n + d.toNat * 128 ^ k ≤ 1099511627775 := by simpa using g4
          have hL : putL [] ((n + d.toNat * 128 ^ k : Nat) : Int) = varB (n + d.toNat * 128 ^ k) := by unfold putL; rw [if_pos (by rw [hP]; exact decide_eq_true g4'), Int.toNat_natCast]; rfl
          have hi : IntKind.i64.wrap (((a + k : Nat) : Int) + 1) = ((a + k + 1 : Nat) : Int) := by rw [w64 (by omega) (by omega)]; rfl
          have hw : IntKind.i64.wrap (IntKind.i64.wrap (((a + k : Nat) : Int) + 1) - (a : Int)) = ((k + 1 : Nat) : Int) := by rw [hi, w64 (by omega) (by omega)]; omega
          conv => whnf
          intro _
          conv => whnf
          refine br2 (fun g5 => ?_) (fun g5 => ?_)
          · replace g5 : (((putL [] ((n + d.toNat * 128 ^ k : Nat) : Int)).length : Int) != IntKind.i64.wrap (IntKind.i64.wrap (((a + k : Nat) : Int) + 1) - (a : Int))) = true := g5
            rw [hL, hw] at g5
            have g5' : (varB (n + d.toNat * 128 ^ k)).length ≠ k + 1 := by intro h; rw [h] at g5; simp at g5
            conv => whnf
            refine ⟨⟨rfl, 0, -1, rfl, gotN_bad hD hd g3' (.inr ?_)⟩⟩
            rw [Ne, hlen] at g5'
            omega
          · conv => whnf
            refine ⟨⟨rfl, _, _, ?_, gotN_of hD hd g3' g4'⟩⟩
            show [[D.lf (.int .i64 (IntKind.i64.wrap ((n : Int) + IntKind.i64.wrap (((IntKind.i64.wrap (d.toNat : Int)).tmod 128) * ((128 ^ k : Nat) : Int)))))], [D.lf (.int .i64 (IntKind.i64.wrap (((a + k : Nat) : Int) + 1)))]] = _
            rw [hn1, hi]
    · conv => whnf
      refine ⟨⟨rfl, 0, -1, rfl, hD.out (.inr ?_) hk1⟩⟩
      rw [w64 (by omega) (by omega)] at g2
      simp at g2; omega
  · conv => whnf
    refine ⟨⟨rfl, 0, -1, rfl, hD.out (.inl ?_) hk1⟩⟩
    simp at g1; omega
theorem sGetVar_ok : FnOk Tryz.prog 168 cGetVar := fnOk_of fun x => fn_at tab_ok (SOk.cons putVar_ok SOk.nil) mixed (fn := Tryz.f168) (code := body Tryz.f168) ⟨Tryz.func168, rfl, by kernel_rfl, by kernel_rfl, by kernel_rfl, by kernel_rfl⟩ (ev_sGetVar x)
end Go.Vm
namespace Go.Vm
open Go.Proofs
set_option maxRecDepth 100000
set_option linter.unusedVariables false
set_option linter.unusedSimpArgs false

theorem ev_iGetVar : ∀ x, evFn tab [] cGetVar Tryz.f206 (body Tryz.f206) x := by
  rintro ⟨l, a, hl, h1, h2⟩
  conv => whnf
  refine br2 (fun h3 => ?_) (fun h3 => ?_)
  · conv => whnf
    refine ⟨⟨rfl, 0, -1, rfl, gotN_none (.inl (by simpa using h3))⟩⟩
  have h3' : 0 ≤ a := by simpa using h3
  obtain ⟨a, rfl⟩ : ∃ k : Nat, a = k := ⟨a.toNat, by omega⟩
  conv => whnf
  refine ⟨fun m s h => ∃ k n : Nat, Dig l a k n ∧ (a + k ≤ l.length ∨ k = 0) ∧ k ≤ 6 ∧ m = 6 - k ∧ s = [(0, .sl 0 none), (1, .lf (.int .i64 a)), (6, .lf (.int .i64 n)), (7, .lf (.int .i64 ((128 ^ k : Nat) : Int))), (8, .lf (.int .i64 ((a + k : Nat) : Int)))] ∧ h = [(0, some (.row .lent 1 encB l))],
    6, [(0, 0)], [(0, .sl 0 none), (1, .lf (.int .i64 a)), (6, .lf (.int .i64 0)), (7, .lf (.int .i64 1)), (8, .lf (.int .i64 a))], [(0, some (.row .lent 1 encB l))], ⟨rfl, ⟨rfl, rfl, rfl, rfl, rfl, trivial⟩, ⟨rfl, trivial⟩⟩, ⟨0, 0, Dig.zero l a, by omega, by omega, rfl, rfl, rfl⟩, ?_⟩
  rintro m _ _ ⟨k, n, hD, hk1, hk2, rfl, rfl, rfl⟩
  conv => whnf
  intro _
  conv => whnf
  refine br2 (fun g1 => ?_) (fun g1 => ?_)
  · have hk : a + k < l.length := by simp at g1; omega
    have hw : IntKind.i64.wrap (((a + k : Nat) : Int) - (a : Int)) = (k : Int) := by rw [w64 (by omega) (by omega)]; omega
    conv => whnf
    refine br2 (fun g2 => ?_) (fun g2 => ?_)
    · have hk5 : k ≤ 5 := by rw [hw] at g2; simp at g2; omega
      obtain ⟨d, hd⟩ : ∃ d, l[a + k]? = some d := ⟨_, List.getElem?_eq_getElem hk⟩
      have hd2 : nth l ((a + k : Nat) : Int).toNat = some d := by rw [nth_eq, Int.toNat_natCast]; exact hd
      have hd8 := u8_lt d
      obtain ⟨b1, b2, b3⟩ := dig_bound hD hk5 hd8
      have p1 : (0 : Int) ≤ ((128 ^ k : Nat) : Int) := Int.natCast_nonneg _
      have p2 : ((128 ^ k : Nat) : Int) ≤ 34359738368 := Int.ofNat_le.2 b1
      have hdw : IntKind.i64.wrap (d.toNat : Int) = (d.toNat : Int) := w64 (by omega) (by omega)
      have hn1 : IntKind.i64.wrap ((n : Int) + IntKind.i64.wrap (((IntKind.i64.wrap (d.toNat : Int)).tmod 128) * ((128 ^ k : Nat) : Int))) = ((n + d.toNat % 128 * 128 ^ k : Nat) : Int) := by
        rw [hdw, tmod128, ← Int.natCast_mul, w64 (n := ((d.toNat % 128 * 128 ^ k : Nat) : Int)) (by omega) (by omega), ← Int.natCast_add, w64 (by omega) (by omega)]
      have hi : IntKind.i64.wrap (((a + k : Nat) : Int) + 1) = ((a + k + 1 : Nat) : Int) := by rw [w64 (by omega) (by omega)]; rfl
      conv => whnf
      refine ⟨by omega, by omega, ?_⟩
      conv => whnf
      refine ex2 d hd2 ?_
      conv => whnf
      refine br2 (fun g3 => ?_) (fun g3 => ?_)
      · have g3' : 128 ≤ d.toNat := by rw [hdw] at g3; simp at g3; omega
        conv => whnf
        refine ⟨6 - (k + 1), [(0, 0)], [(0, .sl 0 none), (1, .lf (.int .i64 a)), (6, .lf (.int .i64 ((n + d.toNat % 128 * 128 ^ k : Nat) : Int))), (7, .lf (.int .i64 ((128 ^ (k + 1) : Nat) : Int))), (8, .lf (.int .i64 ((a + (k + 1) : Nat) : Int)))], [(0, some (.row .lent 1 encB l))], by omega, ⟨rfl, ⟨rfl, rfl, ?_, ?_, ?_, trivial⟩, ⟨rfl, trivial⟩⟩, k + 1, _, hD.step hd g3', by omega, by omega, rfl, rfl, rfl⟩
        · show V.lf (.int .i64 (IntKind.i64.wrap ((n : Int) + IntKind.i64.wrap (((IntKind.i64.wrap (d.toNat : Int)).tmod 128) * ((128 ^ k : Nat) : Int))))) = _
          rw [hn1]
        · show V.lf (.int .i64 (IntKind.i64.wrap (((128 ^ k : Nat) : Int) * 128))) = _
          rw [w64 (by omega) (by omega), Nat.pow_succ]; rfl
        · show V.lf (.int .i64 (IntKind.i64.wrap (((a + k : Nat) : Int) + 1))) = _
          rw [hi]; rfl
      · have g3' : d.toNat < 128 := by rw [hdw] at g3; simp at g3; omega
        have hm : d.toNat % 128 = d.toNat := Nat.mod_eq_of_lt g3'
        rw [hm] at hn1 b3
        conv => whnf
        refine br2 (fun g4 => ?_) (fun g4 => ?_)
        · replace g4 : decide (IntKind.i64.wrap ((n : Int) + IntKind.i64.wrap (((IntKind.i64.wrap (d.toNat : Int)).tmod 128) * ((128 ^ k : Nat) : Int))) > 1099511627775) = true := g4
          rw [hn1] at g4
          conv => whnf
          exact ⟨⟨rfl, 0, -1, rfl, gotN_bad hD hd g3' (.inl (by have := of_decide_eq_true g4; omega))⟩⟩
        · replace g4 : decide (IntKind.i64.wrap ((n : Int) + IntKind.i64.wrap (((IntKind.i64.wrap (d.toNat : Int)).tmod 128) * ((128 ^ k : Nat) : Int))) > 1099511627775) = false := g4
          rw [hn1] at g4
          have g4' : n + d.toNat * 128 ^ k ≤ 1099511627775 := by have := of_decide_eq_false g4; omega
          have done : GotN l a ((n + d.toNat * 128 ^ k : Nat) : Int) ((a + k + 1 : Nat) : Int) := gotN_of hD hd g3' g4'
          conv => whnf
          refine br2 (fun g5 => ?_) (fun g5 => ?_)
          · replace g5 : (IntKind.i64.wrap (d.toNat : Int) == 0) = true := g5
            rw [hdw] at g5
            have g5' : d.toNat = 0 := by have := eq_of_beq g5; omega
            conv => whnf
            refine br2 (fun g6 => ?_) (fun g6 => ?_)
            · conv => whnf
              exact ⟨⟨rfl, 0, -1, rfl, gotN_bad hD hd g3' (.inr ⟨g5', by have := of_decide_eq_true g6; omega⟩)⟩⟩
            · conv => whnf
              refine ⟨⟨rfl, _, _, ?_, done⟩⟩
              show [[D.lf (.int .i64 (IntKind.i64.wrap ((n : Int) + IntKind.i64.wrap (((IntKind.i64.wrap (d.toNat : Int)).tmod 128) * ((128 ^ k : Nat) : Int)))))], [D.lf (.int .i64 (IntKind.i64.wrap (((a + k : Nat) : Int) + 1)))]] = _
              rw [hn1, hi]
          · conv => whnf
            refine ⟨⟨rfl, _, _, ?_, done⟩⟩
            show [[D.lf (.int .i64 (IntKind.i64.wrap ((n : Int) + IntKind.i64.wrap (((IntKind.i64.wrap (d.toNat : Int)).tmod 128) * ((128 ^ k : Nat) : Int)))))], [D.lf (.int .i64 (IntKind.i64.wrap (((a + k : Nat) : Int) + 1)))]] = _
            rw [hn1, hi]
    · conv => whnf
      refine ⟨⟨rfl, 0, -1, rfl, hD.out (.inr ?_) (by omega)⟩⟩
      rw [hw] at g2
      simp at g2; omega
  · conv => whnf
    have g1' : l.length ≤ a + k := by simp at g1; omega
    rcases hk1 with hk1 | hk1
    · exact ⟨⟨rfl, 0, -1, rfl, hD.out (.inl g1') hk1⟩⟩
    · exact ⟨⟨rfl, 0, -1, rfl, (show GotN l a 0 (-1) from gotN_none (.inr (by omega)))⟩⟩
theorem iGetVar_ok : FnOk Tryz.prog 206 cGetVar := fnOk_of fun x => fn_at tab_ok (SOk.nil) mixed (fn := Tryz.f206) (code := body Tryz.f206) ⟨Tryz.func206, rfl, by kernel_rfl, by kernel_rfl, by kernel_rfl, by kernel_rfl⟩ (ev_iGetVar x)

/-- What is read: a text and the place behind it; the text that stands there. -/
def GotT (l : List UInt8) (a : Int) (t : ByteArray) (nx : Int) : Prop :=
  (nx = -1 ∧ t = ⟨#[]⟩ ∨ 0 ≤ a ∧ a < nx ∧ nx ≤ l.length ∧ t.size ≤ l.length) ∧
    ∀ (pre : List UInt8) (u : ByteArray) (post : List UInt8), l = pre ++ encT u ++ post → a = pre.length → u.size ≤ 1099511627775 → t = u ∧ nx = pre.length + (encT u).length
def cGetText : Con := relC GetX [(.rd, false), (.rd, false)] [false, false] (fun x => [[.row 1 encB x.l], [.lf (.int .i64 x.a)]]) (fun x r => ∃ (t : ByteArray) (nx : Int), r = [[.lf (.string t)], [.lf (.int .i64 nx)]] ∧ GotT x.l x.a t nx)

theorem gotT_none {l : List UInt8} {a n nx : Int} (h : GotN l a n nx) (hb : nx < 0 ∨ (l.length : Int) - nx < n) : GotT l a ⟨#[]⟩ (-1) := by
  refine ⟨.inl ⟨rfl, rfl⟩, fun pre u post h1 h2 h3 => ?_⟩
  obtain ⟨e1, e2⟩ := h.2 pre u.size (bs u ++ post) (by rw [h1]; simp [encT]) h2 h3
  have := congrArg List.length h1
  simp only [List.length_append, encT, bs_len] at this
  omega
theorem gotT_of {l : List UInt8} {a : Int} {n nx : Nat} (h : GotN l a n nx) (hb : nx + n ≤ l.length) : GotT l a (ofB ((l.drop nx).take n)) ((nx + n : Nat) : Int) := by
  have h0 := h.1
  refine ⟨.inr ⟨by omega, by omega, by omega, by rw [of_size, List.length_take, List.length_drop]; omega⟩, fun pre u post h1 h2 h3 => ?_⟩
  obtain ⟨e1, e2⟩ := h.2 pre u.size (bs u ++ post) (by rw [h1]; simp [encT]) h2 h3
  have hn : n = u.size := by omega
  have hnx : nx = pre.length + (varB u.size).length := by omega
  refine ⟨?_, by simp only [encT, List.length_append, bs_len]; omega⟩
  have : (l.drop nx).take n = bs u := by
    rw [h1, hnx, hn, ← List.length_append]
    have : pre ++ encT u ++ post = (pre ++ varB u.size) ++ (bs u ++ post) := by simp [encT]
    rw [this, List.drop_left, ← bs_len, List.take_left]
  rw [this, of_bs]

theorem ev_sGetText : ∀ x, evFn tab [(168, cGetVar)] cGetText Tryz.f122 (body Tryz.f122) x := by
  rintro ⟨l, a, hl, h1, h2⟩
  conv => whnf
  refine ⟨⟨l, a, hl, h1, h2⟩, rfl, ?_⟩
  rintro _ _ ⟨rfl, n, nx, rfl, hG⟩
  have hG0 : nx = -1 ∧ n = 0 ∨ 0 ≤ n ∧ n ≤ 1099511627775 ∧ 0 ≤ a ∧ a < nx ∧ nx ≤ l.length := hG.1
  conv => whnf
  refine br2 (fun h3 => ?_) (fun h3 => ?_)
  · conv => whnf
    exact ⟨⟨rfl, ⟨#[]⟩, -1, rfl, gotT_none hG (.inl (of_decide_eq_true h3))⟩⟩
  have h3' : 0 ≤ nx := by have := of_decide_eq_false h3; omega
  conv => whnf
  intro _
  have hw : IntKind.i64.wrap ((l.length : Int) - nx) = (l.length : Int) - nx := w64 (by omega) (by omega)
  conv => whnf
  refine br2 (fun h4 => ?_) (fun h4 => ?_)
  · replace h4 : decide (n > IntKind.i64.wrap ((l.length : Int) - nx)) = true := h4
    rw [hw] at h4
    conv => whnf
    exact ⟨⟨rfl, ⟨#[]⟩, -1, rfl, gotT_none hG (.inr (by have := of_decide_eq_true h4; omega))⟩⟩
  replace h4 : decide (n > IntKind.i64.wrap ((l.length : Int) - nx)) = false := h4
  rw [hw] at h4
  have h4' : nx + n ≤ l.length := by have := of_decide_eq_false h4; omega
  have hw2 : IntKind.i64.wrap (nx + n) = nx + n := w64 (by omega) (by omega)
  obtain ⟨n, rfl⟩ : ∃ k : Nat, n = k := ⟨n.toNat, by omega⟩
  obtain ⟨nx, rfl⟩ : ∃ k : Nat, nx = k := ⟨nx.toNat, by omega⟩
  conv => whnf
  refine ⟨Int.natCast_nonneg _, by rw [hw2]; omega, by rw [hw2]; exact h4', ?_⟩
  conv => whnf
  refine ⟨(l.drop nx).take n, ?_, ?_⟩
  · show List.map encB ((l.drop (nx : Int).toNat).take (IntKind.i64.wrap ((nx : Int) + n) - nx).toNat) = _
    rw [hw2, Int.toNat_natCast, show ((nx : Int) + n - nx).toNat = n by omega]
  conv => whnf
  refine ⟨⟨rfl, _, _, ?_, gotT_of hG (show nx + n ≤ l.length by omega)⟩⟩
  show [[D.lf (.string _)], [D.lf (.int .i64 (IntKind.i64.wrap ((nx : Int) + n)))]] = _
  rw [hw2]; rfl
theorem sGetText_ok : FnOk Tryz.prog 122 cGetText := fnOk_of fun x => fn_at tab_ok (SOk.cons sGetVar_ok SOk.nil) mixed (fn := Tryz.f122) (code := body Tryz.f122) ⟨Tryz.func122, rfl, by kernel_rfl, by kernel_rfl, by kernel_rfl, by kernel_rfl⟩ (ev_sGetText x)
theorem ev_iGetText : ∀ x, evFn tab [(206, cGetVar)] cGetText Tryz.f196 (body Tryz.f196) x := by
  rintro ⟨l, a, hl, h1, h2⟩
  conv => whnf
  refine ⟨⟨l, a, hl, h1, h2⟩, rfl, ?_⟩
  rintro _ _ ⟨rfl, n, nx, rfl, hG⟩
  have hG0 : nx = -1 ∧ n = 0 ∨ 0 ≤ n ∧ n ≤ 1099511627775 ∧ 0 ≤ a ∧ a < nx ∧ nx ≤ l.length := hG.1
  conv => whnf
  refine br2 (fun h3 => ?_) (fun h3 => ?_)
  · conv => whnf
    exact ⟨⟨rfl, ⟨#[]⟩, -1, rfl, gotT_none hG (.inl (of_decide_eq_true h3))⟩⟩
  have h3' : 0 ≤ nx := by have := of_decide_eq_false h3; omega
  conv => whnf
  intro _
  have hw : IntKind.i64.wrap ((l.length : Int) - nx) = (l.length : Int) - nx := w64 (by omega) (by omega)
  conv => whnf
  refine br2 (fun h4 => ?_) (fun h4 => ?_)
  · replace h4 : decide (n > IntKind.i64.wrap ((l.length : Int) - nx)) = true := h4
    rw [hw] at h4
    conv => whnf
    exact ⟨⟨rfl, ⟨#[]⟩, -1, rfl, gotT_none hG (.inr (by have := of_decide_eq_true h4; omega))⟩⟩
  replace h4 : decide (n > IntKind.i64.wrap ((l.length : Int) - nx)) = false := h4
  rw [hw] at h4
  have h4' : nx + n ≤ l.length := by have := of_decide_eq_false h4; omega
  have hw2 : IntKind.i64.wrap (nx + n) = nx + n := w64 (by omega) (by omega)
  obtain ⟨n, rfl⟩ : ∃ k : Nat, n = k := ⟨n.toNat, by omega⟩
  obtain ⟨nx, rfl⟩ : ∃ k : Nat, nx = k := ⟨nx.toNat, by omega⟩
  conv => whnf
  refine ⟨Int.natCast_nonneg _, by rw [hw2]; omega, by rw [hw2]; exact h4', ?_⟩
  conv => whnf
  refine ⟨(l.drop nx).take n, ?_, ?_⟩
  · show List.map encB ((l.drop (nx : Int).toNat).take (IntKind.i64.wrap ((nx : Int) + n) - nx).toNat) = _
    rw [hw2, Int.toNat_natCast, show ((nx : Int) + n - nx).toNat = n by omega]
  conv => whnf
  refine ⟨⟨rfl, _, _, ?_, gotT_of hG (show nx + n ≤ l.length by omega)⟩⟩
  show [[D.lf (.string _)], [D.lf (.int .i64 (IntKind.i64.wrap ((nx : Int) + n)))]] = _
  rw [hw2]; rfl
theorem iGetText_ok : FnOk Tryz.prog 196 cGetText := fnOk_of fun x => fn_at tab_ok (SOk.cons iGetVar_ok SOk.nil) mixed (fn := Tryz.f196) (code := body Tryz.f196) ⟨Tryz.func196, rfl, by kernel_rfl, by kernel_rfl, by kernel_rfl, by kernel_rfl⟩ (ev_iGetText x)
end Go.Vm
namespace Go.Vm
open Go.Proofs
set_option maxRecDepth 100000
set_option linter.unusedVariables false
set_option linter.unusedSimpArgs false

/-! The order of texts -/
theorem bl_flip : ∀ a b : List UInt8, Op.bytesLess b a = !(Op.bytesLess a b || a == b)
  | [], [] => rfl
  | [], _ :: _ => by simp [Op.bytesLess]
  | _ :: _, [] => by simp [Op.bytesLess]
  | a :: x, b :: y => by
    have ih := bl_flip x y
    simp only [Op.bytesLess]
    rcases Nat.lt_trichotomy a.toNat b.toNat with h | h | h
    · have h1 : a < b := UInt8.lt_iff_toNat_lt.mpr h
      have h2 : ¬ b < a := fun e => by have := UInt8.lt_iff_toNat_lt.mp e; omega
      have h3 : a ≠ b := fun e => by subst e; omega
      simp [h1, h2, h3, Ne.symm h3]
    · have h1 : a = b := UInt8.toNat_inj.mp h
      subst h1
      have h2 : ¬ a < a := fun e => by have := UInt8.lt_iff_toNat_lt.mp e; omega
      simp only [h2, decide_false, Bool.false_or, beq_self_eq_true, Bool.true_and, ih, List.cons_beq_cons]
    · have h1 : b < a := UInt8.lt_iff_toNat_lt.mpr h
      have h2 : ¬ a < b := fun e => by have := UInt8.lt_iff_toNat_lt.mp e; omega
      have h3 : a ≠ b := fun e => by subst e; omega
      simp [h1, h2, h3]
theorem toList_inj {a b : ByteArray} (h : a.toList = b.toList) : a = b := by
  rw [ByteArray.toList_eq, ByteArray.toList_eq] at h
  obtain ⟨⟨x⟩⟩ := a
  obtain ⟨⟨y⟩⟩ := b
  simpa using h
theorem strEq_iff {a b : ByteArray} : strEq a b = true ↔ a = b := by
  unfold strEq
  rw [beq_iff_eq]
  exact ⟨toList_inj, fun h => by rw [h]⟩
theorem strEq_no {a b : ByteArray} : strEq a b = false ↔ a ≠ b := by
  rw [Ne, ← strEq_iff]; cases strEq a b <;> simp
theorem strEq_refl (a : ByteArray) : strEq a a = true := strEq_iff.2 rfl
theorem strLt_flip (a b : ByteArray) : strLt b a = !(strLt a b || strEq a b) := bl_flip _ _
theorem strLt_gtr (a b : ByteArray) : (!(strLt b a || strEq b a)) = strLt a b := (strLt_flip b a).symm

def emp (s : ByteArray) : Bool := strEq s ⟨#[]⟩
theorem emp_iff {s : ByteArray} : emp s = true ↔ s = ⟨#[]⟩ := strEq_iff
def userOkB (s : ByteArray) : Bool := decide (1 ≤ s.size) && decide (s.size ≤ 8)
def uvalOkB (s : ByteArray) : Bool := decide (s.size ≤ 20)
def keyOkB (s : ByteArray) : Bool := decide (1 ≤ s.size) && decide (s.size ≤ 16)
def rangeOkB (a b : ByteArray) : Bool := decide (a.size ≤ 17) && decide (b.size ≤ 17) && (emp b || strLt a b)
def reachOkB (a b : ByteArray) : Bool := rangeOkB a b && decide (a.size ≤ 9) && decide (b.size ≤ 9)

/-- A test of one text; of two in a struct. -/
def cS1 (f : ByteArray → Bool) : Con := pureC ByteArray [(.rd, false)] [false] (fun k => [[.lf (.string k)]]) (fun k => [[.lf (.bool (f k))]])
def cS2 (f : ByteArray → ByteArray → Bool) : Con := pureC (ByteArray × ByteArray) [(.rd, true)] [false] (fun k => [[.lf (.string k.1), .lf (.string k.2)]]) (fun k => [[.lf (.bool (f k.1 k.2))]])
def cUserOk : Con := cS1 userOkB
def cUvalOk : Con := cS1 uvalOkB
def cKeyOk : Con := cS1 keyOkB
def cRangeOk : Con := cS2 rangeOkB
def cReachOk : Con := cS2 reachOkB
structure WithinX where
  a : Int
  b : Int
  c : Int
def cWithin : Con := pureC WithinX [(.rd, false), (.rd, false), (.rd, false)] [false] (fun x => [[.lf (.int .i64 x.a)], [.lf (.int .i64 x.b)], [.lf (.int .i64 x.c)]]) (fun x => [[.lf (.bool (decide (x.b ≤ x.a) && decide (x.a ≤ x.c)))]])

theorem ev_sUserOk : ∀ x, evFn tab [] cUserOk Tryz.f62 (body Tryz.f62) x := by
  intro k
  repeat' ((conv => whnf); refine br2 (fun h => ?_) (fun h => ?_))
  all_goals (conv => whnf)
  all_goals refine ⟨⟨rfl, ?_⟩⟩
  · show _ = [[D.lf (.bool (userOkB k))]]
    have h1 := of_decide_eq_true h
    unfold userOkB
    rw [show decide (1 ≤ k.size) = true from decide_eq_true (by omega), Bool.true_and]
    congr 4
    exact decide_eq_decide.2 (by omega)
  · show _ = [[D.lf (.bool (userOkB k))]]
    have h1 := of_decide_eq_false h
    unfold userOkB
    rw [show decide (1 ≤ k.size) = false from decide_eq_false (by omega), Bool.false_and]
theorem sUserOk_ok : FnOk Tryz.prog 62 cUserOk := fnOk_of fun x => fn_at tab_ok (SOk.nil) mixed (fn := Tryz.f62) (code := body Tryz.f62) ⟨Tryz.func62, rfl, by kernel_rfl, by kernel_rfl, by kernel_rfl, by kernel_rfl⟩ (ev_sUserOk x)
theorem ev_sUvalOk : ∀ x, evFn tab [] cUvalOk Tryz.f63 (body Tryz.f63) x := by
  intro k
  conv => whnf
  refine ⟨⟨rfl, ?_⟩⟩
  show _ = [[D.lf (.bool (uvalOkB k))]]
  unfold uvalOkB
  congr 4
  exact decide_eq_decide.2 (by omega)
theorem sUvalOk_ok : FnOk Tryz.prog 63 cUvalOk := fnOk_of fun x => fn_at tab_ok (SOk.nil) mixed (fn := Tryz.f63) (code := body Tryz.f63) ⟨Tryz.func63, rfl, by kernel_rfl, by kernel_rfl, by kernel_rfl, by kernel_rfl⟩ (ev_sUvalOk x)
theorem ev_iUvalOk : ∀ x, evFn tab [] cUvalOk Tryz.f159 (body Tryz.f159) x := by
  intro k
  conv => whnf
  refine ⟨⟨rfl, ?_⟩⟩
  show _ = [[D.lf (.bool (uvalOkB k))]]
  unfold uvalOkB
  congr 4
  exact decide_eq_decide.2 (by omega)
theorem iUvalOk_ok : FnOk Tryz.prog 159 cUvalOk := fnOk_of fun x => fn_at tab_ok (SOk.nil) mixed (fn := Tryz.f159) (code := body Tryz.f159) ⟨Tryz.func159, rfl, by kernel_rfl, by kernel_rfl, by kernel_rfl, by kernel_rfl⟩ (ev_iUvalOk x)
theorem ev_within : ∀ x, evFn tab [] cWithin Tryz.f147 (body Tryz.f147) x := by
  rintro ⟨a, b, c⟩
  repeat' ((conv => whnf); refine br2 (fun h => ?_) (fun h => ?_))
  all_goals (conv => whnf)
  all_goals refine ⟨⟨rfl, ?_⟩⟩
  · show _ = [[D.lf (.bool (decide (b ≤ a) && decide (a ≤ c)))]]
    rw [show decide (b ≤ a) = true from h, Bool.true_and]
  · show _ = [[D.lf (.bool (decide (b ≤ a) && decide (a ≤ c)))]]
    rw [show decide (b ≤ a) = false from h, Bool.false_and]
theorem within_ok : FnOk Tryz.prog 147 cWithin := fnOk_of fun x => fn_at tab_ok (SOk.nil) mixed (fn := Tryz.f147) (code := body Tryz.f147) ⟨Tryz.func147, rfl, by kernel_rfl, by kernel_rfl, by kernel_rfl, by kernel_rfl⟩ (ev_within x)
theorem ev_iUserOk : ∀ x, evFn tab [(147, cWithin)] cUserOk Tryz.f158 (body Tryz.f158) x := by
  intro k
  conv => whnf
  refine ⟨⟨k.size, 1, 8⟩, rfl, ?_⟩
  rintro _ _ ⟨rfl, rfl⟩
  conv => whnf
  refine ⟨⟨rfl, ?_⟩⟩
  show [[D.lf (.bool (decide ((1 : Int) ≤ k.size) && decide ((k.size : Int) ≤ 8)))]] = [[D.lf (.bool (userOkB k))]]
  unfold userOkB
  rw [show decide ((1 : Int) ≤ k.size) = decide (1 ≤ k.size) from decide_eq_decide.2 (by omega), show decide ((k.size : Int) ≤ 8) = decide (k.size ≤ 8) from decide_eq_decide.2 (by omega)]
theorem iUserOk_ok : FnOk Tryz.prog 158 cUserOk := fnOk_of fun x => fn_at tab_ok (SOk.cons within_ok SOk.nil) mixed (fn := Tryz.f158) (code := body Tryz.f158) ⟨Tryz.func158, rfl, by kernel_rfl, by kernel_rfl, by kernel_rfl, by kernel_rfl⟩ (ev_iUserOk x)
theorem ev_iKeyOk : ∀ x, evFn tab [(147, cWithin)] cKeyOk Tryz.f96 (body Tryz.f96) x := by
  intro k
  conv => whnf
  refine ⟨⟨k.size, 1, 16⟩, rfl, ?_⟩
  rintro _ _ ⟨rfl, rfl⟩
  conv => whnf
  refine ⟨⟨rfl, ?_⟩⟩
  show [[D.lf (.bool (decide ((1 : Int) ≤ k.size) && decide ((k.size : Int) ≤ 16)))]] = [[D.lf (.bool (keyOkB k))]]
  unfold keyOkB
  rw [show decide ((1 : Int) ≤ k.size) = decide (1 ≤ k.size) from decide_eq_decide.2 (by omega), show decide ((k.size : Int) ≤ 16) = decide (k.size ≤ 16) from decide_eq_decide.2 (by omega)]
theorem iKeyOk_ok : FnOk Tryz.prog 96 cKeyOk := fnOk_of fun x => fn_at tab_ok (SOk.cons within_ok SOk.nil) mixed (fn := Tryz.f96) (code := body Tryz.f96) ⟨Tryz.func96, rfl, by kernel_rfl, by kernel_rfl, by kernel_rfl, by kernel_rfl⟩ (ev_iKeyOk x)
theorem natI (a b : Nat) : decide ((a : Int) ≤ b) = decide (a ≤ b) := decide_eq_decide.2 (by omega)
theorem ev_sRangeOk : ∀ x, evFn tab [] cRangeOk Tryz.f204 (body Tryz.f204) x := by
  rintro ⟨a, b⟩
  repeat' ((conv => whnf); refine br2 (fun h => ?_) (fun h => ?_))
  all_goals (conv => whnf)
  all_goals refine ⟨⟨rfl, ?_⟩⟩
  all_goals show _ = [[D.lf (.bool (rangeOkB a b))]]
  · have h1 : ¬ a.size ≤ 17 := by have := of_decide_eq_true h; simp at this; omega
    simp [rangeOkB, h1]
  · rename_i h0
    have h1 : ¬ b.size ≤ 17 := by have := of_decide_eq_true h; simp at this; omega
    simp [rangeOkB, h1]
  · rename_i h1 h0
    have h3 : a.size ≤ 17 := by have := of_decide_eq_false h1; simp at this; omega
    have h4 : b.size ≤ 17 := by have := of_decide_eq_false h0; simp at this; omega
    have h5 : emp b = true := h
    simp [rangeOkB, h3, h4, h5]
  · rename_i h1 h0
    have h3 : a.size ≤ 17 := by have := of_decide_eq_false h1; simp at this; omega
    have h4 : b.size ≤ 17 := by have := of_decide_eq_false h0; simp at this; omega
    have h5 : emp b = false := h
    simp [rangeOkB, h3, h4, h5]
theorem sRangeOk_ok : FnOk Tryz.prog 204 cRangeOk := fnOk_of fun x => fn_at tab_ok (SOk.nil) mixed (fn := Tryz.f204) (code := body Tryz.f204) ⟨Tryz.func204, rfl, by kernel_rfl, by kernel_rfl, by kernel_rfl, by kernel_rfl⟩ (ev_sRangeOk x)
theorem ev_iRangeOk : ∀ x, evFn tab [] cRangeOk Tryz.f190 (body Tryz.f190) x := by
  rintro ⟨a, b⟩
  repeat' ((conv => whnf); refine br2 (fun h => ?_) (fun h => ?_))
  all_goals (conv => whnf)
  all_goals refine ⟨⟨rfl, ?_⟩⟩
  all_goals show _ = [[D.lf (.bool (rangeOkB a b))]]
  · rename_i h1 h0
    have h3 : a.size ≤ 17 := by have := of_decide_eq_true h1; simp at this; omega
    have h4 : b.size ≤ 17 := by have := of_decide_eq_true h0; simp at this; omega
    have h5 : emp b = true := h
    simp [rangeOkB, h3, h4, h5]
  · rename_i h1 h0
    have h3 : a.size ≤ 17 := by have := of_decide_eq_true h1; simp at this; omega
    have h4 : b.size ≤ 17 := by have := of_decide_eq_true h0; simp at this; omega
    have h5 : emp b = false := h
    show [[D.lf (.bool (!(strLt b a || strEq b a)))]] = _
    rw [strLt_gtr]
    simp [rangeOkB, h3, h4, h5]
  · rename_i h0
    have h1 : ¬ b.size ≤ 17 := by have := of_decide_eq_false h; simp at this; omega
    simp [rangeOkB, h1]
  · have h1 : ¬ a.size ≤ 17 := by have := of_decide_eq_false h; simp at this; omega
    simp [rangeOkB, h1]
theorem iRangeOk_ok : FnOk Tryz.prog 190 cRangeOk := fnOk_of fun x => fn_at tab_ok (SOk.nil) mixed (fn := Tryz.f190) (code := body Tryz.f190) ⟨Tryz.func190, rfl, by kernel_rfl, by kernel_rfl, by kernel_rfl, by kernel_rfl⟩ (ev_iRangeOk x)
theorem ev_sReachOk : ∀ x, evFn tab [(204, cRangeOk)] cReachOk Tryz.f193 (body Tryz.f193) x := by
  rintro ⟨a, b⟩
  conv => whnf
  refine ⟨(a, b), rfl, ?_⟩
  rintro _ _ ⟨rfl, rfl⟩
  repeat' ((conv => whnf); refine br2 (fun h => ?_) (fun h => ?_))
  all_goals (conv => whnf)
  all_goals refine ⟨⟨rfl, ?_⟩⟩
  all_goals show _ = [[D.lf (.bool (reachOkB a b))]]
  · rename_i h1
    have h2 : rangeOkB a b = true := h1
    have h3 : a.size ≤ 9 := by have := of_decide_eq_true h; simp at this; omega
    show [[D.lf (.bool (decide ((b.size : Int) ≤ (9 : Nat))))]] = _
    rw [natI]
    simp [reachOkB, h2, h3]
  · rename_i h1
    have h2 : rangeOkB a b = true := h1
    have h3 : ¬ a.size ≤ 9 := by have := of_decide_eq_false h; simp at this; omega
    simp [reachOkB, h2, h3]
  · have h2 : rangeOkB a b = false := h
    simp [reachOkB, h2]
theorem sReachOk_ok : FnOk Tryz.prog 193 cReachOk := fnOk_of fun x => fn_at tab_ok (SOk.cons sRangeOk_ok SOk.nil) mixed (fn := Tryz.f193) (code := body Tryz.f193) ⟨Tryz.func193, rfl, by kernel_rfl, by kernel_rfl, by kernel_rfl, by kernel_rfl⟩ (ev_sReachOk x)
theorem ev_iReachOk : ∀ x, evFn tab [(190, cRangeOk)] cReachOk Tryz.f160 (body Tryz.f160) x := by
  rintro ⟨a, b⟩
  conv => whnf
  refine ⟨(a, b), rfl, ?_⟩
  rintro _ _ ⟨rfl, rfl⟩
  repeat' ((conv => whnf); refine br2 (fun h => ?_) (fun h => ?_))
  all_goals (conv => whnf)
  all_goals refine ⟨⟨rfl, ?_⟩⟩
  all_goals show _ = [[D.lf (.bool (reachOkB a b))]]
  · rename_i h1
    have h2 : rangeOkB a b = true := h1
    have h3 : a.size ≤ 9 := by have := of_decide_eq_true h; simp at this; omega
    show [[D.lf (.bool (decide ((b.size : Int) ≤ (9 : Nat))))]] = _
    rw [natI]
    simp [reachOkB, h2, h3]
  · rename_i h1
    have h2 : rangeOkB a b = true := h1
    have h3 : ¬ a.size ≤ 9 := by have := of_decide_eq_false h; simp at this; omega
    simp [reachOkB, h2, h3]
  · have h2 : rangeOkB a b = false := h
    simp [reachOkB, h2]
theorem iReachOk_ok : FnOk Tryz.prog 160 cReachOk := fnOk_of fun x => fn_at tab_ok (SOk.cons iRangeOk_ok SOk.nil) mixed (fn := Tryz.f160) (code := body Tryz.f160) ⟨Tryz.func160, rfl, by kernel_rfl, by kernel_rfl, by kernel_rfl, by kernel_rfl⟩ (ev_iReachOk x)

/-! Records -/
structure RecX where
  kind : Int
  key : ByteArray
  val : ByteArray
  lo : ByteArray
  hi : ByteArray
def RecX.ds (r : RecX) : List D := [.lf (.int .i64 r.kind), .lf (.string r.key), .lf (.string r.val), .lf (.string r.lo), .lf (.string r.hi)]
def recOkB (r : RecX) : Bool :=
  if r.kind = 1 then userOkB r.key && uvalOkB r.val && (emp r.lo && emp r.hi)
  else if r.kind = 2 then userOkB r.key && emp r.val && (emp r.lo && emp r.hi)
  else if r.kind = 3 ∨ r.kind = 4 then emp r.key && emp r.val && reachOkB r.lo r.hi
  else false
def cRecOk : Con := pureC RecX [(.rd, true)] [false] (fun r => [r.ds]) (fun r => [[.lf (.bool (recOkB r))]])
theorem ev_sRecOk : ∀ x, evFn tab [(62, cUserOk), (63, cUvalOk), (193, cReachOk)] cRecOk Tryz.f169 (body Tryz.f169) x := by
  rintro ⟨kind, key, val, lo, hi⟩
  repeat' ((conv => whnf); first | refine br2 (fun h => ?_) (fun h => ?_) | (refine ⟨key, rfl, ?_⟩; rintro _ _ ⟨rfl, rfl⟩) | (refine ⟨val, rfl, ?_⟩; rintro _ _ ⟨rfl, rfl⟩) | (refine ⟨(lo, hi), rfl, ?_⟩; rintro _ _ ⟨rfl, rfl⟩))
  all_goals (conv => whnf)
  all_goals refine ⟨⟨rfl, ?_⟩⟩
  all_goals show _ = [[D.lf (.bool (recOkB ⟨kind, key, val, lo, hi⟩))]]
  all_goals simp_all [recOkB, emp]
theorem sRecOk_ok : FnOk Tryz.prog 169 cRecOk := fnOk_of fun x => fn_at tab_ok (SOk.cons sUserOk_ok (SOk.cons sUvalOk_ok (SOk.cons sReachOk_ok SOk.nil))) mixed (fn := Tryz.f169) (code := body Tryz.f169) ⟨Tryz.func169, rfl, by kernel_rfl, by kernel_rfl, by kernel_rfl, by kernel_rfl⟩ (ev_sRecOk x)
theorem ev_iRecOk : ∀ x, evFn tab [(158, cUserOk), (159, cUvalOk), (160, cReachOk)] cRecOk Tryz.f105 (body Tryz.f105) x := by
  rintro ⟨kind, key, val, lo, hi⟩
  repeat' ((conv => whnf); first | refine br2 (fun h => ?_) (fun h => ?_) | (refine ⟨key, rfl, ?_⟩; rintro _ _ ⟨rfl, rfl⟩) | (refine ⟨val, rfl, ?_⟩; rintro _ _ ⟨rfl, rfl⟩) | (refine ⟨(lo, hi), rfl, ?_⟩; rintro _ _ ⟨rfl, rfl⟩))
  all_goals (conv => whnf)
  all_goals refine ⟨⟨rfl, ?_⟩⟩
  all_goals show _ = [[D.lf (.bool (recOkB ⟨kind, key, val, lo, hi⟩))]]
  all_goals simp_all [recOkB, emp]
theorem iRecOk_ok : FnOk Tryz.prog 105 cRecOk := fnOk_of fun x => fn_at tab_ok (SOk.cons iUserOk_ok (SOk.cons iUvalOk_ok (SOk.cons iReachOk_ok SOk.nil))) mixed (fn := Tryz.f105) (code := body Tryz.f105) ⟨Tryz.func105, rfl, by kernel_rfl, by kernel_rfl, by kernel_rfl, by kernel_rfl⟩ (ev_iRecOk x)
/-! Equal structs -/
end Go.Vm
namespace Go.Vm
open Go.Proofs
set_option maxRecDepth 100000
set_option linter.unusedVariables false
set_option linter.unusedSimpArgs false

structure TxX where
  c : Int
  e : Int
  n : Int
def TxX.ds (x : TxX) : List D := [.lf (.int .i64 x.c), .lf (.int .i64 x.e), .lf (.int .i64 x.n)]
structure RngX where
  lo : ByteArray
  hi : ByteArray
def RngX.ds (x : RngX) : List D := [.lf (.string x.lo), .lf (.string x.hi)]
structure LockX where
  tx : TxX
  rng : RngX
  ex : Bool
def LockX.ds (x : LockX) : List D := [.lf (.int .i64 x.tx.c), .lf (.int .i64 x.tx.e), .lf (.int .i64 x.tx.n), .lf (.string x.rng.lo), .lf (.string x.rng.hi), .lf (.bool x.ex)]
theorem LockX.len (x : LockX) : x.ds.length = 6 := rfl
/-- A copy of a struct; of a slice; whether two are alike; how large one is. -/
def cCopy {X : Type} (ds : X → List D) : Con := pureC X [(.rd, true)] [true] (fun x => [ds x]) (fun x => [ds x])
noncomputable def cEq {X : Type} (ds : X → List D) : Con := pureC (X × X) [(.rd, true), (.rd, true)] [false] (fun x => [ds x.1, ds x.2]) (fun x => [[.lf (.bool (eqX x.1 x.2))]])
structure LstX (X : Type) where
  l : List X
  hl : l.length ≤ 1048576
def cCopyS {X : Type} (sz : Nat) (ds : X → List D) : Con := pureC (LstX X) [(.rd, false)] [false] (fun x => [[.row sz ds x.l]]) (fun x => [[.row sz ds x.l]])
noncomputable def cEqS {X : Type} (sz : Nat) (ds : X → List D) : Con := pureC (List X × List X) [(.rd, false), (.rd, false)] [false] (fun x => [[.row sz ds x.1], [.row sz ds x.2]]) (fun x => [[.lf (.bool (eqX x.1 x.2))]])
structure SzX (X : Type) (B0 : X → Prop) where
  x : X
  left : Int
  h1 : 0 ≤ left
  h2 : left ≤ 1048576
  hb : B0 x
/-- What is left behind a struct or a slice is not more; where it is no less than nothing, the sizes fit. -/
def cSz {X : Type} (ds : X → List D) (B0 B : X → Prop) : Con := relC (SzX X B0) [(.rd, true), (.rd, false)] [false] (fun x => [ds x.x, [.lf (.int .i64 x.left)]]) (fun x r => ∃ k : Int, r = [[.lf (.int .i64 k)]] ∧ -1 ≤ k ∧ k ≤ x.left ∧ (0 ≤ k → B x.x))
def cSzS {X : Type} (sz : Nat) (ds : X → List D) (B0 B : X → Prop) : Con := relC (SzX (List X) fun l => l.length ≤ 9223372036854775807 ∧ ∀ y ∈ l, B0 y) [(.rd, false), (.rd, false)] [false] (fun x => [[.row sz ds x.x], [.lf (.int .i64 x.left)]])
  (fun x r => ∃ k : Int, r = [[.lf (.int .i64 k)]] ∧ -1 ≤ k ∧ k ≤ x.left ∧ (0 ≤ k → x.x.length + k ≤ x.left ∧ ∀ y ∈ x.x, B y))
def maxS : Nat := 9223372036854775807
def rngB0 (x : RngX) : Prop := x.lo.size ≤ maxS ∧ x.hi.size ≤ maxS
def rngB (x : RngX) : Prop := x.lo.size ≤ 1048576 ∧ x.hi.size ≤ 1048576
def lockB0 (x : LockX) : Prop := rngB0 x.rng
theorem ev_szPair : ∀ x, evFn tab [] (cSz RngX.ds rngB0 rngB) Tryz.f167 (body Tryz.f167) x := by
  rintro ⟨⟨lo, hi⟩, left, h1, h2, hb1, hb2⟩
  replace hb1 : lo.size ≤ 9223372036854775807 := hb1
  replace hb2 : hi.size ≤ 9223372036854775807 := hb2
  conv => whnf
  have e1 : IntKind.i64.wrap (left - (lo.size : Int)) = left - lo.size := w64 (by omega) (by omega)
  refine br2 (fun h3 => ?_) (fun h3 => ?_)
  · conv => whnf
    exact ⟨⟨rfl, -1, rfl, by omega, (show (-1 : Int) ≤ left by omega), fun h => by omega⟩⟩
  · replace h3 : decide (IntKind.i64.wrap (left - (lo.size : Int)) < 0) = false := h3
    rw [e1] at h3
    have h3' := of_decide_eq_false h3
    conv => whnf
    have e2 : IntKind.i64.wrap (IntKind.i64.wrap (left - (lo.size : Int)) - (hi.size : Int)) = left - lo.size - hi.size := by rw [e1]; exact w64 (by omega) (by omega)
    refine br2 (fun h4 => ?_) (fun h4 => ?_)
    · conv => whnf
      exact ⟨⟨rfl, -1, rfl, by omega, (show (-1 : Int) ≤ left by omega), fun h => by omega⟩⟩
    · replace h4 : decide (IntKind.i64.wrap (IntKind.i64.wrap (left - (lo.size : Int)) - (hi.size : Int)) < 0) = false := h4
      rw [e2] at h4
      have h4' := of_decide_eq_false h4
      conv => whnf
      refine ⟨⟨rfl, _, rfl, ?_, ?_, fun _ => (⟨by omega, by omega⟩ : lo.size ≤ 1048576 ∧ hi.size ≤ 1048576)⟩⟩
      · show -1 ≤ IntKind.i64.wrap (IntKind.i64.wrap (left - (lo.size : Int)) - (hi.size : Int))
        rw [e2]; omega
      · show IntKind.i64.wrap (IntKind.i64.wrap (left - (lo.size : Int)) - (hi.size : Int)) ≤ left
        rw [e2]; omega
theorem szPair_ok : FnOk Tryz.prog 167 (cSz RngX.ds rngB0 rngB) := fnOk_of fun x => fn_at tab_ok (SOk.nil) mixed (fn := Tryz.f167) (code := body Tryz.f167) ⟨Tryz.func167, rfl, by kernel_rfl, by kernel_rfl, by kernel_rfl, by kernel_rfl⟩ (ev_szPair x)
theorem ev_szPairS : ∀ x, evFn tab [(167, (cSz RngX.ds rngB0 rngB))] (cSzS 2 RngX.ds rngB0 rngB) Tryz.f117 (body Tryz.f117) x := by
  rintro ⟨l, left, h1, h2, hb0, hb⟩
  replace hb0 : l.length ≤ 9223372036854775807 := hb0
  conv => whnf
  intro h3
  conv => whnf
  have e1 : IntKind.i64.wrap (left - (l.length : Int)) = left - l.length := w64 (by omega) (by omega)
  refine br2 (fun h4 => ?_) (fun h4 => ?_)
  · conv => whnf
    exact ⟨⟨rfl, -1, rfl, by omega, (show (-1 : Int) ≤ left by omega), fun h => by omega⟩⟩
  replace h4 : decide (IntKind.i64.wrap (left - (l.length : Int)) < 0) = false := h4
  rw [e1] at h4
  have h4' := of_decide_eq_false h4
  conv => whnf
  refine ⟨fun m s h => ∃ (i : Nat) (k : Int), i ≤ l.length ∧ 0 ≤ k ∧ k ≤ left - l.length ∧ (∀ j y, j < i → l[j]? = some y → rngB y) ∧ m = l.length - i ∧ s = [(0, .sl 0 none), (1, .lf (.int .i64 k)), (5, .lf (.int .i64 i))] ∧ h = [(0, some (.row .lent 2 RngX.ds l))],
    l.length, [(0, 0)], [(0, .sl 0 none), (1, .lf (.int .i64 (left - l.length))), (5, .lf (.int .i64 0))], [(0, some (.row .lent 2 RngX.ds l))], ⟨rfl, ⟨rfl, ?_, rfl, trivial⟩, ⟨rfl, trivial⟩⟩, ⟨0, left - l.length, by omega, by omega, by omega, fun j y h => by omega, by omega, rfl, rfl⟩, ?_⟩
  · show V.lf (.int .i64 (IntKind.i64.wrap (left - (l.length : Int)))) = _
    rw [e1]
  rintro m _ _ ⟨i, k, g1, g2, g3, g4, rfl, rfl, rfl⟩
  conv => whnf
  intro _
  conv => whnf
  refine br2 (fun h5 => ?_) (fun h5 => ?_)
  · have hi : i < l.length := by have := of_decide_eq_true h5; omega
    obtain ⟨y, hy⟩ : ∃ y, l[i]? = some y := ⟨_, List.getElem?_eq_getElem hi⟩
    have hy2 : nth l ((i : Nat) : Int).toNat = some y := by rw [nth_eq, Int.toNat_natCast]; exact hy
    conv => whnf
    refine ⟨Int.natCast_nonneg _, (show (i : Int) < (l.length : Int) by omega), ?_⟩
    conv => whnf
    refine ex2 y hy2 ?_
    conv => whnf
    refine ⟨⟨y, k, g2, by omega, hb y (List.mem_of_getElem? hy)⟩, rfl, ?_⟩
    rintro _ _ ⟨rfl, k', rfl, k1, k2, k3⟩
    replace k2 : k' ≤ k := k2
    conv => whnf
    refine br2 (fun h6 => ?_) (fun h6 => ?_)
    · conv => whnf
      exact ⟨⟨rfl, -1, rfl, by omega, (show (-1 : Int) ≤ left by omega), fun h => by omega⟩⟩
    · have h6' := of_decide_eq_false h6
      conv => whnf
      refine ⟨l.length - (i + 1), [(0, 0)], [(0, .sl 0 none), (1, .lf (.int .i64 k')), (5, .lf (.int .i64 ((i + 1 : Nat) : Int)))], [(0, some (.row .lent 2 RngX.ds l))], by omega, ⟨rfl, ⟨rfl, rfl, ?_, trivial⟩, ⟨rfl, trivial⟩⟩, i + 1, k', by omega, by omega, by omega, fun j z hj hz => ?_, rfl, rfl, rfl⟩
      · show V.lf (.int .i64 (IntKind.i64.wrap ((i : Int) + 1))) = _
        rw [w64 (by omega) (by omega)]; rfl
      · rcases Nat.lt_or_ge j i with h7 | h7
        · exact g4 j z h7 hz
        · obtain rfl : j = i := by omega
          rw [hy] at hz; cases hz; exact k3 (by omega)
  · have hi : i = l.length := by have := of_decide_eq_false h5; omega
    conv => whnf
    refine ⟨⟨rfl, k, rfl, by omega, (show k ≤ left by omega), fun _ => (⟨by omega, fun y hy => ?_⟩ : (l.length : Int) + k ≤ left ∧ ∀ y ∈ l, rngB y)⟩⟩
    obtain ⟨j, hj⟩ := List.getElem?_of_mem hy
    exact g4 j y (by rw [hi]; exact (List.getElem?_eq_some_iff.1 hj).1) hj
theorem szPairS_ok : FnOk Tryz.prog 117 (cSzS 2 RngX.ds rngB0 rngB) := fnOk_of fun x => fn_at tab_ok (SOk.cons szPair_ok SOk.nil) mixed (fn := Tryz.f117) (code := body Tryz.f117) ⟨Tryz.func117, rfl, by kernel_rfl, by kernel_rfl, by kernel_rfl, by kernel_rfl⟩ (ev_szPairS x)

theorem ev_toTx : ∀ x, evFn tab [] (cCopy TxX.ds) Tryz.f9 (body Tryz.f9) x := by
  intro x
  conv => whnf
  exact ⟨⟨rfl, rfl⟩⟩
theorem toTx_ok : FnOk Tryz.prog 9 (cCopy TxX.ds) := fnOk_of fun x => fn_at tab_ok (SOk.nil) mixed (fn := Tryz.f9) (code := body Tryz.f9) ⟨Tryz.func9, rfl, by kernel_rfl, by kernel_rfl, by kernel_rfl, by kernel_rfl⟩ (ev_toTx x)
theorem ev_toPair : ∀ x, evFn tab [] (cCopy RngX.ds) Tryz.f171 (body Tryz.f171) x := by
  intro x
  conv => whnf
  exact ⟨⟨rfl, rfl⟩⟩
theorem toPair_ok : FnOk Tryz.prog 171 (cCopy RngX.ds) := fnOk_of fun x => fn_at tab_ok (SOk.nil) mixed (fn := Tryz.f171) (code := body Tryz.f171) ⟨Tryz.func171, rfl, by kernel_rfl, by kernel_rfl, by kernel_rfl, by kernel_rfl⟩ (ev_toPair x)
theorem ev_eqPair : ∀ x, evFn tab [] (cEq RngX.ds) Tryz.f178 (body Tryz.f178) x := by
  rintro ⟨⟨a, b⟩, ⟨c, d⟩⟩
  repeat' ((conv => whnf); refine br2 (fun h => ?_) (fun h => ?_))
  all_goals (conv => whnf)
  all_goals refine ⟨⟨rfl, ?_⟩⟩
  all_goals show _ = [[D.lf (.bool (eqX (⟨a, b⟩ : RngX) ⟨c, d⟩))]]
  all_goals congr 4
  all_goals rw [eq_comm]
  all_goals simp_all [eqX_iff, eqX_no, strEq_iff, strEq_no]
theorem eqPair_ok : FnOk Tryz.prog 178 (cEq RngX.ds) := fnOk_of fun x => fn_at tab_ok (SOk.nil) mixed (fn := Tryz.f178) (code := body Tryz.f178) ⟨Tryz.func178, rfl, by kernel_rfl, by kernel_rfl, by kernel_rfl, by kernel_rfl⟩ (ev_eqPair x)
def rng0 : RngX := ⟨⟨#[]⟩, ⟨#[]⟩⟩
theorem set_at {α : Type} {l : List α} {i j : Nat} {y : α} (hi : i < l.length) : (l.set i y)[j]? = if i = j then some y else l[j]? := by
  rw [List.getElem?_set]
  split
  · rename_i e; subst e; simp [hi]
  · rfl
theorem ev_toPairS : ∀ x, evFn tab [(171, (cCopy RngX.ds))] (cCopyS 2 RngX.ds) Tryz.f124 (body Tryz.f124) x := by
  rintro ⟨l, hl⟩
  conv => whnf
  intro h1
  conv => whnf
  refine ⟨Int.natCast_nonneg _, rfl, ?_, ?_⟩
  · show (l.length : Int) ≤ (4294967296 : Nat); omega
  conv => whnf
  refine ⟨RngX, RngX.ds, rng0, fun _ => rfl, rfl, ?_⟩
  conv => whnf
  refine ⟨fun m s h => ∃ (i : Nat) (l' : List RngX), i ≤ l.length ∧ l'.length = l.length ∧ (∀ j, j < i → l'[j]? = l[j]?) ∧ m = l.length - i ∧ s = [(0, .sl 0 none), (3, .sl 112 none), (4, .lf (.int .i64 i))] ∧ h = [(112, some (.row .own 2 RngX.ds l')), (0, some (.row .lent 2 RngX.ds l))],
    l.length, [(112, 112), (0, 0)], [(0, .sl 0 none), (3, .sl 112 none), (4, .lf (.int .i64 0))], [(112, some (.row .own 2 RngX.ds (List.replicate (l.length : Int).toNat rng0))), (0, some (.row .lent 2 RngX.ds l))], ⟨rfl, ⟨rfl, rfl, rfl, trivial⟩, ⟨rfl, rfl, trivial⟩⟩,
    ⟨0, _, by omega, by rw [List.length_replicate, Int.toNat_natCast], fun j h => by omega, by omega, rfl, rfl⟩, ?_⟩
  rintro m _ _ ⟨i, l', g1, g2, g3, rfl, rfl, rfl⟩
  conv => whnf
  intro _
  conv => whnf
  refine br2 (fun h5 => ?_) (fun h5 => ?_)
  · have hi : i < l.length := by have := of_decide_eq_true h5; omega
    obtain ⟨y, hy⟩ : ∃ y, l[i]? = some y := ⟨_, List.getElem?_eq_getElem hi⟩
    have hy2 : nth l ((i : Nat) : Int).toNat = some y := by rw [nth_eq, Int.toNat_natCast]; exact hy
    obtain ⟨z, hz⟩ : ∃ z, l'[i]? = some z := ⟨_, List.getElem?_eq_getElem (by omega)⟩
    have hz2 : nth l' ((i : Nat) : Int).toNat = some z := by rw [nth_eq, Int.toNat_natCast]; exact hz
    conv => whnf
    refine ⟨Int.natCast_nonneg _, (show (i : Int) < (l.length : Int) by omega), ?_⟩
    conv => whnf
    refine ex2 y hy2 ?_
    conv => whnf
    refine ⟨y, rfl, ?_⟩
    rintro _ _ ⟨rfl, rfl⟩
    conv => whnf
    refine ⟨Int.natCast_nonneg _, (show (i : Int) < (l'.length : Int) by omega), ?_⟩
    conv => whnf
    refine ex2 z hz2 ?_
    conv => whnf
    refine ⟨y, rfl, ?_⟩
    conv => whnf
    refine ⟨l.length - (i + 1), [(112, 112), (0, 0)], [(0, .sl 0 none), (3, .sl 112 none), (4, .lf (.int .i64 ((i + 1 : Nat) : Int)))], [(112, some (.row .own 2 RngX.ds (l'.set (i : Int).toNat y))), (0, some (.row .lent 2 RngX.ds l))], by omega, ⟨rfl, ⟨rfl, rfl, ?_, trivial⟩, ⟨rfl, rfl, trivial⟩⟩, i + 1, _, by omega, ?_, fun j hj => ?_, rfl, rfl, rfl⟩
    · show V.lf (.int .i64 (IntKind.i64.wrap ((i : Int) + 1))) = _
      rw [w64 (by omega) (by omega)]; rfl
    · rw [List.length_set]; exact g2
    · rw [Int.toNat_natCast, set_at (by omega)]
      split
      · rename_i e; subst e; exact hy.symm
      · exact g3 j (by omega)
  · have hi : i = l.length := by have := of_decide_eq_false h5; omega
    conv => whnf
    refine ⟨⟨rfl, ?_⟩⟩
    have : l' = l := by
      apply List.ext_getElem?
      intro j
      rcases Nat.lt_or_ge j l.length with h | h
      · exact g3 j (by omega)
      · rw [List.getElem?_eq_none (by omega), List.getElem?_eq_none h]
    show [[D.row _ RngX.ds l']] = [[D.row 2 RngX.ds l]]
    rw [this]
theorem toPairS_ok : FnOk Tryz.prog 124 (cCopyS 2 RngX.ds) := fnOk_of fun x => fn_at tab_ok (SOk.cons toPair_ok SOk.nil) mixed (fn := Tryz.f124) (code := body Tryz.f124) ⟨Tryz.func124, rfl, by kernel_rfl, by kernel_rfl, by kernel_rfl, by kernel_rfl⟩ (ev_toPairS x)
theorem ev_eqPairS : ∀ x, evFn tab [(178, (cEq RngX.ds))] (cEqS 2 RngX.ds) Tryz.f132 (body Tryz.f132) x := by
  rintro ⟨l, m⟩
  conv => whnf
  intro h1
  conv => whnf
  intro h2
  conv => whnf
  refine br2 (fun h3 => ?_) (fun h3 => ?_)
  · conv => whnf
    refine ⟨⟨rfl, ?_⟩⟩
    show _ = [[D.lf (.bool (eqX l m))]]
    have : l ≠ m := by rintro rfl; simp at h3
    rw [eqX_no.2 this]
  have hl : l.length = m.length := by
    replace h3 : ((l.length : Int) != (m.length : Int)) = false := h3
    simp at h3; omega
  conv => whnf
  refine ⟨fun k s h => ∃ i : Nat, i ≤ l.length ∧ (∀ j, j < i → l[j]? = m[j]?) ∧ k = l.length - i ∧ s = [(0, .sl 0 none), (1, .sl 16 none), (5, .lf (.int .i64 i))] ∧ h = [(0, some (.row .lent 2 RngX.ds l)), (16, some (.row .lent 2 RngX.ds m))],
    l.length, [(0, 0), (16, 16)], [(0, .sl 0 none), (1, .sl 16 none), (5, .lf (.int .i64 0))], [(0, some (.row .lent 2 RngX.ds l)), (16, some (.row .lent 2 RngX.ds m))], ⟨rfl, ⟨rfl, rfl, rfl, trivial⟩, ⟨rfl, rfl, trivial⟩⟩, ⟨0, by omega, fun j h => by omega, by omega, rfl, rfl⟩, ?_⟩
  rintro k _ _ ⟨i, g1, g2, rfl, rfl, rfl⟩
  conv => whnf
  intro h4
  conv => whnf
  refine br2 (fun h5 => ?_) (fun h5 => ?_)
  · have hi : i < l.length := by have := of_decide_eq_true h5; omega
    obtain ⟨y, hy⟩ : ∃ y, l[i]? = some y := ⟨_, List.getElem?_eq_getElem hi⟩
    have hy2 : nth l ((i : Nat) : Int).toNat = some y := by rw [nth_eq, Int.toNat_natCast]; exact hy
    obtain ⟨z, hz⟩ : ∃ z, m[i]? = some z := ⟨_, List.getElem?_eq_getElem (by omega)⟩
    have hz2 : nth m ((i : Nat) : Int).toNat = some z := by rw [nth_eq, Int.toNat_natCast]; exact hz
    conv => whnf
    refine ⟨Int.natCast_nonneg _, (show (i : Int) < (l.length : Int) by omega), ?_⟩
    conv => whnf
    refine ex2 y hy2 ?_
    conv => whnf
    refine ⟨Int.natCast_nonneg _, (show (i : Int) < (m.length : Int) by omega), ?_⟩
    conv => whnf
    refine ex2 z hz2 ?_
    conv => whnf
    refine ⟨(y, z), rfl, ?_⟩
    rintro _ _ ⟨rfl, rfl⟩
    conv => whnf
    refine br2 (fun h6 => ?_) (fun h6 => ?_)
    · replace h6 : (!eqX y z) = true := h6
      rw [Bool.not_eq_true', eqX_no] at h6
      conv => whnf
      refine ⟨⟨rfl, ?_⟩⟩
      show _ = [[D.lf (.bool (eqX l m))]]
      have : l ≠ m := by rintro rfl; rw [hy] at hz; cases hz; exact h6 rfl
      rw [eqX_no.2 this]
    · replace h6 : (!eqX y z) = false := h6
      rw [Bool.not_eq_false', eqX_iff] at h6
      conv => whnf
      refine ⟨l.length - (i + 1), [(0, 0), (16, 16)], [(0, .sl 0 none), (1, .sl 16 none), (5, .lf (.int .i64 ((i + 1 : Nat) : Int)))], [(0, some (.row .lent 2 RngX.ds l)), (16, some (.row .lent 2 RngX.ds m))], by omega, ⟨rfl, ⟨rfl, rfl, ?_, trivial⟩, ⟨rfl, rfl, trivial⟩⟩, i + 1, by omega, fun j hj => ?_, rfl, rfl, rfl⟩
      · show V.lf (.int .i64 (IntKind.i64.wrap ((i : Int) + 1))) = _
        replace h4 : l.length ≤ 9223372036854775807 := h4
        rw [w64 (by omega) (by omega)]; rfl
      · rcases Nat.lt_or_ge j i with h7 | h7
        · exact g2 j h7
        · obtain rfl : j = i := by omega
          rw [hy, hz, h6]
  · have hi : i = l.length := by have := of_decide_eq_false h5; omega
    conv => whnf
    refine ⟨⟨rfl, ?_⟩⟩
    show _ = [[D.lf (.bool (eqX l m))]]
    have : l = m := by
      apply List.ext_getElem?
      intro j
      rcases Nat.lt_or_ge j l.length with h | h
      · exact g2 j (by omega)
      · rw [List.getElem?_eq_none h, List.getElem?_eq_none (by omega)]
    rw [eqX_iff.2 this]
theorem eqPairS_ok : FnOk Tryz.prog 132 (cEqS 2 RngX.ds) := fnOk_of fun x => fn_at tab_ok (SOk.cons eqPair_ok SOk.nil) mixed (fn := Tryz.f132) (code := body Tryz.f132) ⟨Tryz.func132, rfl, by kernel_rfl, by kernel_rfl, by kernel_rfl, by kernel_rfl⟩ (ev_eqPairS x)

/-! Held and waiting locks -/
structure LocksX where
  held : List LockX
  wait : List LockX
def LocksX.ds (x : LocksX) : List D := [.row 6 LockX.ds x.held, .row 6 LockX.ds x.wait]
def locksB0 (x : LocksX) : Prop := (x.held.length ≤ 9223372036854775807 ∧ ∀ y ∈ x.held, lockB0 y) ∧ (x.wait.length ≤ 9223372036854775807 ∧ ∀ y ∈ x.wait, lockB0 y)
end Go.Vm
namespace Go.Vm
open Go.Proofs
set_option maxRecDepth 100000
set_option linter.unusedVariables false
set_option linter.unusedSimpArgs false

def numL (n : Nat) : List UInt8 := if n < 10 then [UInt8.ofNat (48 + n)] else numL (n / 10) ++ [UInt8.ofNat (48 + n % 10)]
theorem numL_lt {n : Nat} (h : n < 10) : numL n = [UInt8.ofNat (48 + n)] := by rw [numL, if_pos h]
theorem numL_ge {n : Nat} (h : ¬ n < 10) : numL n = numL (n / 10) ++ [UInt8.ofNat (48 + n % 10)] := by rw [numL, if_neg h]
theorem numL_len {n k : Nat} (h : n < 10 ^ (k + 1)) : (numL n).length ≤ k + 1 := by
  induction k generalizing n with
  | zero => rw [numL_lt (by simpa using h)]; simp
  | succ k ih =>
    by_cases h0 : n < 10
    · rw [numL_lt h0]; simp
    · rw [numL_ge h0]
      have := ih (n := n / 10) (by rw [Nat.pow_succ] at h; exact Nat.div_lt_of_lt_mul (by omega))
      simp; omega
theorem numL_pos (n : Nat) : 1 ≤ (numL n).length := by
  by_cases h : n < 10
  · rw [numL_lt h]; simp
  · rw [numL_ge h]; simp
def numT (n : Int) : ByteArray := if numB n then ofB (numL n.toNat) else ⟨#[]⟩
theorem numT_no {n : Int} (h : numB n = false) : numT n = ⟨#[]⟩ := by rw [numT, if_neg (by rw [h]; simp)]
theorem numT_yes {k : Nat} (h : k ≤ 1099511627775) : numT (k : Int) = ofB (numL k) := by rw [numT, if_pos (by simp [numB]; omega), Int.toNat_natCast]
theorem numT_size (n : Int) : (numT n).size ≤ 13 := by
  unfold numT
  split
  · rename_i h
    rw [of_size]
    have : n.toNat < 10 ^ 13 := by simp [numB] at h; omega
    exact numL_len (k := 12) this
  · decide
def cNumText : Con := pureC IX [(.rd, false)] [false] (fun x => [[.lf (.int .i64 x.n)]]) (fun x => [[.lf (.string (numT x.n))]])
theorem dig_u8 {n : Int} {k : Nat} (h : n = k) (hk : k < 208) : IntKind.u8.wrap (IntKind.i64.wrap (48 + n)) = ((UInt8.ofNat (48 + k)).toNat : Int) := by
  subst h
  exact u8_of (k := 48 + k) (by rw [w64 (by omega) (by omega)]; omega) (by omega)
theorem ev_sNumText : ∀ n x, (fun x => x.n.toNat) x = n → evFnX tab [(83, cNumText.below (fun x => x.n.toNat) n), (121, cNum)] cNumText Tryz.f83 (body Tryz.f83) x := by
  rintro q ⟨n, h1, h2⟩ rfl
  conv => whnf
  refine ⟨⟨n, h1, h2⟩, rfl, ?_⟩
  rintro _ _ ⟨rfl, rfl⟩
  conv => whnf
  refine br2 (fun h3 => ?_) (fun h3 => ?_)
  · have h3' : numB n = false := by simpa using h3
    conv => whnf
    refine ⟨⟨rfl, ?_⟩⟩
    show _ = [[D.lf (.string (numT n))]]
    rw [numT_no h3']
  have h3' : numB n = true := by simpa using h3
  obtain ⟨h4, h5⟩ : 0 ≤ n ∧ n ≤ 1099511627775 := by simpa [numB] using h3'
  obtain ⟨k, rfl⟩ : ∃ k : Nat, n = k := ⟨n.toNat, by omega⟩
  conv => whnf
  refine br2 (fun h6 => ?_) (fun h6 => ?_)
  · have h6' : k < 10 := by have h6' : (k : Int) < 10 := of_decide_eq_true h6; omega
    conv => whnf
    refine ⟨[UInt8.ofNat (48 + k)], by
      show [[D.lf (.int .u8 (IntKind.u8.wrap (IntKind.i64.wrap (48 + (k : Int)))))]] = _
      rw [dig_u8 rfl (by omega)]; rfl, ?_⟩
    conv => whnf
    refine ⟨⟨rfl, ?_⟩⟩
    show _ = [[D.lf (.string (numT (k : Int)))]]
    rw [numT_yes (by omega), numL_lt h6']; rfl
  have h6' : ¬ k < 10 := by have h6' : ¬ (k : Int) < 10 := of_decide_eq_false h6; omega
  have hd : IntKind.i64.wrap ((k : Int).tdiv 10) = ((k / 10 : Nat) : Int) := by rw [tdiv10, w64 (by omega) (by omega)]
  have hE : [[D.lf (.int .u8 (IntKind.u8.wrap (IntKind.i64.wrap (48 + (k : Int).tmod 10))))]] = [UInt8.ofNat (48 + k % 10)].map encB := by
    rw [dig_u8 (tmod10 k) (by omega)]; rfl
  have hI : [[D.lf (.int .i64 ((k / 10 : Nat) : Int))]] = [[D.lf (.int .i64 (IntKind.i64.wrap ((k : Int).tdiv 10)))]] := by rw [hd]
  have hs := numT_size ((k / 10 : Nat) : Int)
  have hF : [[D.lf (.string (numT ((k / 10 : Nat) : Int) ++ ⟨[UInt8.ofNat (48 + k % 10)].toArray⟩))]] = [[D.lf (.string (numT (k : Int)))]] := by
    rw [numT_yes (k := k) (by omega), numT_yes (k := k / 10) (by omega), numL_ge h6']
    congr 4
  repeat' ((conv => whnf); first
    | refine rc_i rfl ?_
    | refine rc_i ⟨_, hE, rfl⟩ ?_
    | refine ⟨_, hE, ?_⟩
    | (refine ⟨⟨⟨((k / 10 : Nat) : Int), by omega, by omega⟩, (show ((k / 10 : Nat) : Int).toNat < (k : Int).toNat by omega)⟩, hI, ?_⟩; rintro _ _ ⟨rfl, rfl⟩)
    | refine ⟨(show (numT ((k / 10 : Nat) : Int)).size + 1 ≤ 4294967296 by omega), ?_⟩
    | exact ⟨⟨rfl, hF⟩⟩
    | refine ⟨?_, ?_⟩)
theorem sNumText_ok : FnOk Tryz.prog 83 cNumText := fn_rec (fun x => x.n.toNat) fun n hs x hx => fnX_at tab_ok (SOk.cons hs (SOk.cons l01Num_ok SOk.nil)) mixed (fn := Tryz.f83) (code := body Tryz.f83) ⟨Tryz.func83, rfl, by kernel_rfl, by kernel_rfl, by kernel_rfl, by kernel_rfl⟩ (ev_sNumText n x hx)
end Go.Vm
namespace Go.Vm
open Go.Proofs
set_option maxRecDepth 100000
set_option linter.unusedVariables false
set_option linter.unusedSimpArgs false

def txOkB (x : TxX) : Bool := decide (0 ≤ x.c) && decide (x.c ≤ 7) && decide (1 ≤ x.e) && decide (x.e ≤ 999) && decide (1 ≤ x.n) && decide (x.n ≤ 999)
def cTxOk : Con := pureC TxX [(.rd, true)] [false] (fun x => [x.ds]) (fun x => [[.lf (.bool (txOkB x))]])
theorem ev_sTxOk : ∀ x, evFnX tab [] cTxOk Tryz.f82 (body Tryz.f82) x := by
  rintro ⟨c, e, n⟩
  repeat' ((conv => whnf); refine br2 (fun h => ?_) (fun h => ?_))
  all_goals (conv => whnf)
  all_goals refine ⟨⟨rfl, ?_⟩⟩
  all_goals show _ = [[D.lf (.bool (txOkB ⟨c, e, n⟩))]]
  all_goals simp_all [txOkB]
  all_goals omega
theorem sTxOk_ok : FnOk Tryz.prog 82 cTxOk := fnOk_of fun x => fnX_at tab_ok (SOk.nil) mixed (fn := Tryz.f82) (code := body Tryz.f82) ⟨Tryz.func82, rfl, by kernel_rfl, by kernel_rfl, by kernel_rfl, by kernel_rfl⟩ (ev_sTxOk x)
theorem ev_iTxOk : ∀ x, evFnX tab [(147, cWithin)] cTxOk Tryz.f102 (body Tryz.f102) x := by
  rintro ⟨c, e, n⟩
  conv => whnf
  refine ⟨⟨c, 0, 7⟩, rfl, ?_⟩
  rintro _ _ ⟨rfl, rfl⟩
  conv => whnf
  refine br2 (fun h1 => ?_) (fun h1 => ?_)
  · conv => whnf
    refine ⟨⟨e, 1, 999⟩, rfl, ?_⟩
    rintro _ _ ⟨rfl, rfl⟩
    conv => whnf
    refine br2 (fun h2 => ?_) (fun h2 => ?_)
    · conv => whnf
      refine ⟨⟨n, 1, 999⟩, rfl, ?_⟩
      rintro _ _ ⟨rfl, rfl⟩
      conv => whnf
      refine ⟨⟨rfl, ?_⟩⟩
      show [[D.lf (.bool (decide (1 ≤ n) && decide (n ≤ 999)))]] = [[D.lf (.bool (txOkB ⟨c, e, n⟩))]]
      replace h1 : (decide (0 ≤ c) && decide (c ≤ 7)) = true := h1
      replace h2 : (decide (1 ≤ e) && decide (e ≤ 999)) = true := h2
      simp_all [txOkB]
    · conv => whnf
      refine ⟨⟨rfl, ?_⟩⟩
      show _ = [[D.lf (.bool (txOkB ⟨c, e, n⟩))]]
      replace h2 : (decide (1 ≤ e) && decide (e ≤ 999)) = false := h2
      simp [txOkB, Bool.and_assoc] at h2 ⊢
      intros; omega
  · conv => whnf
    refine ⟨⟨rfl, ?_⟩⟩
    show _ = [[D.lf (.bool (txOkB ⟨c, e, n⟩))]]
    replace h1 : (decide (0 ≤ c) && decide (c ≤ 7)) = false := h1
    simp [txOkB, Bool.and_assoc] at h1 ⊢
    intros; omega
theorem iTxOk_ok : FnOk Tryz.prog 102 cTxOk := fnOk_of fun x => fnX_at tab_ok (SOk.cons within_ok SOk.nil) mixed (fn := Tryz.f102) (code := body Tryz.f102) ⟨Tryz.func102, rfl, by kernel_rfl, by kernel_rfl, by kernel_rfl, by kernel_rfl⟩ (ev_iTxOk x)

/-! What two ranges have in common -/
end Go.Vm
namespace Go.Vm
open Go.Proofs
set_option maxRecDepth 100000
set_option linter.unusedVariables false
set_option linter.unusedSimpArgs false

theorem ev_isNum : ∀ x, evFnX tab [(147, cWithin)] cNum Tryz.f106 (body Tryz.f106) x := by
  rintro ⟨n, h1, h2⟩
  conv => whnf
  refine ⟨⟨n, 0, 1099511627775⟩, rfl, ?_⟩
  rintro _ _ ⟨rfl, rfl⟩
  conv => whnf
  exact ⟨⟨rfl, rfl⟩⟩
theorem isNum_ok : FnOk Tryz.prog 106 cNum := fnOk_of fun x => fnX_at tab_ok (SOk.cons within_ok SOk.nil) mixed (fn := Tryz.f106) (code := body Tryz.f106) ⟨Tryz.func106, rfl, by kernel_rfl, by kernel_rfl, by kernel_rfl, by kernel_rfl⟩ (ev_isNum x)
theorem ev_iNumText : ∀ x, evFnX tab [(106, cNum)] cNumText Tryz.f56 (body Tryz.f56) x := by
  rintro ⟨n, h1, h2⟩
  conv => whnf
  refine ⟨⟨n, h1, h2⟩, rfl, ?_⟩
  rintro _ _ ⟨rfl, rfl⟩
  conv => whnf
  refine br2 (fun h3 => ?_) (fun h3 => ?_)
  · have h3' : numB n = false := by simpa using h3
    conv => whnf
    refine ⟨⟨rfl, ?_⟩⟩
    show _ = [[D.lf (.string (numT n))]]
    rw [numT_no h3']
  have h3' : numB n = true := by simpa using h3
  obtain ⟨h4, h5⟩ : 0 ≤ n ∧ n ≤ 1099511627775 := by simpa [numB] using h3'
  obtain ⟨k, rfl⟩ : ∃ k : Nat, n = k := ⟨n.toNat, by omega⟩
  conv => whnf
  refine ⟨fun m s h => ∃ (j : Nat) (t : ByteArray), numL k = numL j ++ bs t ∧ j ≤ k ∧ m = j ∧ s = [(0, .lf (.int .i64 j)), (3, .lf (.string t))] ∧ h = [],
    k, [], [(0, .lf (.int .i64 k)), (3, .lf (.string ⟨#[]⟩))], [], ⟨rfl, ⟨rfl, rfl, trivial⟩, trivial⟩, ⟨k, ⟨#[]⟩, by simp [bs], Nat.le_refl _, rfl, rfl, rfl⟩, ?_⟩
  rintro m _ _ ⟨j, t, g1, g2, rfl, rfl, rfl⟩
  have hlen := congrArg List.length g1
  have hle : (numL k).length ≤ 13 := numL_len (k := 12) (by omega)
  rw [List.length_append, bs_len] at hlen
  conv => whnf
  refine br2 (fun h6 => ?_) (fun h6 => ?_)
  · have h6' : ¬ m < 10 := by have h7 : (m : Int) > 9 := of_decide_eq_true h6; omega
    rw [numL_ge h6'] at g1
    conv => whnf
    refine ⟨[UInt8.ofNat (48 + m % 10)], by
      show [[D.lf (.int .u8 (IntKind.u8.wrap (IntKind.i64.wrap (48 + (m : Int).tmod 10))))]] = _
      rw [dig_u8 (tmod10 m) (by omega)]; rfl, ?_⟩
    conv => whnf
    refine ⟨(show 1 + t.size ≤ 4294967296 by omega), ?_⟩
    conv => whnf
    refine ⟨m / 10, [], [(0, .lf (.int .i64 (m / 10 : Nat))), (3, .lf (.string (⟨[UInt8.ofNat (48 + m % 10)].toArray⟩ ++ t)))], [], by omega, ⟨rfl, ⟨?_, rfl, trivial⟩, trivial⟩, m / 10, _, ?_, by omega, rfl, rfl, rfl⟩
    · show V.lf (.int .i64 (IntKind.i64.wrap ((m : Int).tdiv 10))) = _
      rw [tdiv10, w64 (by omega) (by omega)]
    · rw [g1]; simp [bs]
  · have h6' : m < 10 := by have h7 : ¬ (m : Int) > 9 := of_decide_eq_false h6; omega
    rw [numL_lt h6'] at g1
    conv => whnf
    refine ⟨[UInt8.ofNat (48 + m)], by
      show [[D.lf (.int .u8 (IntKind.u8.wrap (IntKind.i64.wrap (48 + (m : Int)))))]] = _
      rw [dig_u8 rfl (by omega)]; rfl, ?_⟩
    conv => whnf
    refine ⟨(show 1 + t.size ≤ 4294967296 by omega), ?_⟩
    conv => whnf
    refine ⟨⟨rfl, ?_⟩⟩
    show [[D.lf (.string (⟨[UInt8.ofNat (48 + m)].toArray⟩ ++ t))]] = [[D.lf (.string (numT (k : Int)))]]
    rw [numT_yes (by omega), g1]
    congr 4
theorem iNumText_ok : FnOk Tryz.prog 56 cNumText := fnOk_of fun x => fnX_at tab_ok (SOk.cons isNum_ok SOk.nil) mixed (fn := Tryz.f56) (code := body Tryz.f56) ⟨Tryz.func56, rfl, by kernel_rfl, by kernel_rfl, by kernel_rfl, by kernel_rfl⟩ (ev_iNumText x)
/-! Numbers read -/
def dval (l : List UInt8) : Nat := l.foldl (fun n d => n * 10 + (d.toNat - 48)) 0
theorem dval_snoc (l : List UInt8) (d : UInt8) : dval (l ++ [d]) = dval l * 10 + (d.toNat - 48) := by simp [dval]
def IsDig (d : UInt8) : Prop := 48 ≤ d.toNat ∧ d.toNat ≤ 57
theorem dig_to {k : Nat} (h : k < 10) : (UInt8.ofNat (48 + k)).toNat = 48 + k := by simp; omega
theorem numL_dig (n : Nat) : ∀ d ∈ numL n, IsDig d := by
  induction n using Nat.strongRecOn with
  | ind n ih =>
    intro d hd
    by_cases h : n < 10
    · rw [numL_lt h] at hd
      obtain rfl := List.mem_singleton.1 hd
      unfold IsDig; rw [dig_to h]; omega
    · rw [numL_ge h] at hd
      rcases List.mem_append.1 hd with hd | hd
      · exact ih (n / 10) (by omega) d hd
      · obtain rfl := List.mem_singleton.1 hd
        unfold IsDig; rw [dig_to (by omega)]; omega
theorem dval_numL (n : Nat) : dval (numL n) = n := by
  induction n using Nat.strongRecOn with
  | ind n ih =>
    by_cases h : n < 10
    · rw [numL_lt h]; show 0 * 10 + ((UInt8.ofNat (48 + n)).toNat - 48) = n; rw [dig_to h]; omega
    · rw [numL_ge h, dval_snoc, ih (n / 10) (by omega), dig_to (by omega)]; omega
theorem dval_take {l : List UInt8} {i : Nat} (h : ∀ j d, j < i → l[j]? = some d → IsDig d) (hi : i ≤ l.length) : dval (l.take i) < 10 ^ i := by
  induction i with
  | zero => simp [dval]
  | succ i ih =>
    have h1 := ih (fun j d hj => h j d (by omega)) (by omega)
    obtain ⟨d, hd⟩ := getL (l := l) (show i < l.length by omega)
    obtain ⟨d1, d2⟩ := h i d (by omega) hd
    rw [List.take_add_one, hd, Option.toList_some, dval_snoc, Nat.pow_succ]
    omega
/-- The number whose digits these are. -/
structure TextNumR (s : ByteArray) (v : Int) (ok : Bool) : Prop where
  yes : ok = true → numB v = true ∧ numT v = s
  no : ok = false → v = 0
  all : ∀ k : Nat, k ≤ 1099511627775 → ofB (numL k) = s → ok = true ∧ v = k
theorem textNum_none {s : ByteArray} (h : ∀ k : Nat, k ≤ 1099511627775 → ofB (numL k) = s → False) : TextNumR s 0 false := ⟨fun e => (by cases e), fun _ => rfl, fun k hk e => (h k hk e).elim⟩
theorem bt_bsD (s : ByteArray) (i : Nat) : bt s (i : Int) = (((bs s).getD i 0).toNat : Int) := rfl
def cTextNum : Con := relC ByteArray [(.rd, false)] [false, false] (fun s => [[.lf (.string s)]]) (fun s r => ∃ v ok, r = [[.lf (.int .i64 v)], [.lf (.bool ok)]] ∧ TextNumR s v ok)
theorem ev_sTextNum : ∀ x, evFnX tab [(121, cNum), (83, cNumText)] cTextNum Tryz.f69 (body Tryz.f69) x := by
  intro (s : ByteArray)
  conv => whnf
  refine br2 (fun h1 => ?_) (fun h1 => ?_)
  · have h2 : (s.size : Int) < 1 := of_decide_eq_true h1
    conv => whnf
    exact ⟨⟨rfl, 0, false, rfl, textNum_none fun k hk e => by have := numL_pos k; rw [← e, of_size] at h2; omega⟩⟩
  have h2 : ¬ (s.size : Int) < 1 := of_decide_eq_false h1
  conv => whnf
  refine br2 (fun h3 => ?_) (fun h3 => ?_)
  · have h4 : (s.size : Int) > 13 := of_decide_eq_true h3
    conv => whnf
    exact ⟨⟨rfl, 0, false, rfl, textNum_none fun k hk e => by have := numL_len (n := k) (k := 12) (by omega); rw [← e, of_size] at h4; omega⟩⟩
  have h4 : ¬ (s.size : Int) > 13 := of_decide_eq_false h3
  conv => whnf
  refine ⟨fun m st h => ∃ (i : Nat), i ≤ s.size ∧ (∀ j d, j < i → (bs s)[j]? = some d → IsDig d) ∧ m = s.size - i ∧ st = [(0, .lf (.string s)), (4, .lf (.int .i64 (dval ((bs s).take i)))), (5, .lf (.int .i64 i))] ∧ h = [],
    s.size, [], [(0, .lf (.string s)), (4, .lf (.int .i64 0)), (5, .lf (.int .i64 0))], [], ⟨rfl, ⟨rfl, rfl, rfl, trivial⟩, trivial⟩, ⟨0, by omega, fun j d h => by omega, by omega, rfl, rfl⟩, ?_⟩
  rintro m _ _ ⟨i, g1, g2, rfl, rfl, rfl⟩
  have hbs : (bs s).length = s.size := bs_len s
  have hv := dval_take g2 (by omega)
  have hp : 10 ^ i ≤ 10 ^ 13 := Nat.pow_le_pow_right (by omega) (by omega)
  conv => whnf
  refine br2 (fun h5 => ?_) (fun h5 => ?_)
  · have hi : i < s.size := by have h6 : (i : Int) < (s.size : Int) := of_decide_eq_true h5; omega
    have hlt : (i : Int) < (s.size : Int) := by omega
    obtain ⟨d, hd⟩ := getL (l := bs s) (show i < (bs s).length by omega)
    have hb : bt s (i : Int) = (d.toNat : Int) := by rw [bt_bsD, List.getD_eq_getElem?_getD, hd]; rfl
    have bad : ¬ IsDig d → TextNumR s 0 false := fun hn => textNum_none fun k hk e => by
      have e2 : bs s = numL k := by rw [← e, bs_of]
      exact hn (numL_dig k d (by rw [← e2]; exact List.mem_of_getElem? hd))
    conv => whnf
    refine ⟨Int.natCast_nonneg _, hlt, ?_⟩
    conv => whnf
    refine br2 (fun h6 => ?_) (fun h6 => ?_)
    · have h7 : bt s (i : Int) < 48 := of_decide_eq_true h6
      conv => whnf
      exact ⟨⟨rfl, 0, false, rfl, bad fun h => by have := h.1; omega⟩⟩
    have h7 : ¬ bt s (i : Int) < 48 := of_decide_eq_false h6
    conv => whnf
    refine ⟨Int.natCast_nonneg _, hlt, ?_⟩
    conv => whnf
    refine br2 (fun h8 => ?_) (fun h8 => ?_)
    · have h9 : bt s (i : Int) > 57 := of_decide_eq_true h8
      conv => whnf
      exact ⟨⟨rfl, 0, false, rfl, bad fun h => by have := h.2; omega⟩⟩
    have h9 : ¬ bt s (i : Int) > 57 := of_decide_eq_false h8
    have hdig : IsDig d := ⟨by omega, by omega⟩
    conv => whnf
    refine ⟨Int.natCast_nonneg _, hlt, ?_⟩
    conv => whnf
    refine ⟨s.size - (i + 1), [], [(0, .lf (.string s)), (4, .lf (.int .i64 (dval ((bs s).take (i + 1))))), (5, .lf (.int .i64 ((i + 1 : Nat) : Int)))], [], by omega, ⟨rfl, ⟨rfl, ?_, ?_, trivial⟩, trivial⟩, i + 1, by omega, fun j d' hj hd' => ?_, rfl, rfl, rfl⟩
    · show V.lf (.int .i64 (IntKind.i64.wrap (IntKind.i64.wrap ((dval ((bs s).take i) : Int) * 10) + IntKind.i64.wrap (IntKind.u8.wrap (bt s (i : Int) - 48))))) = _
      have e1 : IntKind.u8.wrap (bt s (i : Int) - 48) = bt s (i : Int) - 48 := by
        rw [w8]; unfold b8; simp; omega
      have e2 : dval ((bs s).take (i + 1)) = dval ((bs s).take i) * 10 + (d.toNat - 48) := by rw [List.take_add_one, hd, Option.toList_some, dval_snoc]
      rw [e1, hb, e2, w64 (n := (d.toNat : Int) - 48) (by omega) (by omega), w64 (n := (dval ((bs s).take i) : Int) * 10) (by omega) (by omega), w64 (by omega) (by omega)]
      congr 3; omega
    · show V.lf (.int .i64 (IntKind.i64.wrap ((i : Int) + 1))) = _
      rw [w64 (by omega) (by omega)]; rfl
    · rcases Nat.lt_or_ge j i with h10 | h10
      · exact g2 j d' h10 hd'
      · obtain rfl : j = i := by omega
        rw [hd] at hd'; cases hd'; exact hdig
  obtain rfl : i = s.size := by have h6 : ¬ (i : Int) < (s.size : Int) := of_decide_eq_false h5; omega
  rw [List.take_of_length_le (by omega)] at *
  have val : ∀ k, ofB (numL k) = s → dval (bs s) = k := fun k e => by rw [← e, bs_of, dval_numL]
  generalize hn : dval (bs s) = n at *
  conv => whnf
  refine ⟨⟨n, by omega, by omega⟩, rfl, ?_⟩
  rintro _ _ ⟨rfl, rfl⟩
  conv => whnf
  refine br2 (fun h6 => ?_) (fun h6 => ?_)
  · replace h6 : (!numB (n : Int)) = true := h6
    rw [Bool.not_eq_true'] at h6
    conv => whnf
    exact ⟨⟨rfl, 0, false, rfl, textNum_none fun k hk e => by rw [val k e] at h6; simp [numB] at h6; omega⟩⟩
  replace h6 : (!numB (n : Int)) = false := h6
  rw [Bool.not_eq_false'] at h6
  conv => whnf
  refine ⟨⟨n, by omega, by omega⟩, rfl, ?_⟩
  rintro _ _ ⟨rfl, rfl⟩
  conv => whnf
  refine br2 (fun h7 => ?_) (fun h7 => ?_)
  · replace h7 : (!strEq (numT (n : Int)) s) = true := h7
    rw [Bool.not_eq_true', strEq_no] at h7
    conv => whnf
    exact ⟨⟨rfl, 0, false, rfl, textNum_none fun k hk e => h7 (by rw [val k e, numT_yes hk, e])⟩⟩
  · replace h7 : (!strEq (numT (n : Int)) s) = false := h7
    rw [Bool.not_eq_false', strEq_iff] at h7
    have h8 : numB (n : Int) = true := h6
    conv => whnf
    exact ⟨⟨rfl, (n : Int), true, rfl, fun _ => ⟨h8, h7⟩, fun h => (by cases h), fun k hk e => ⟨rfl, by rw [val k e]⟩⟩⟩
theorem sTextNum_ok : FnOk Tryz.prog 69 cTextNum := fnOk_of fun x => fnX_at tab_ok (SOk.cons l01Num_ok (SOk.cons sNumText_ok SOk.nil)) mixed (fn := Tryz.f69) (code := body Tryz.f69) ⟨Tryz.func69, rfl, by kernel_rfl, by kernel_rfl, by kernel_rfl, by kernel_rfl⟩ (ev_sTextNum x)
theorem ev_iTextNum : ∀ x, evFnX tab [(147, cWithin), (56, cNumText)] cTextNum Tryz.f130 (body Tryz.f130) x := by
  intro (s : ByteArray)
  conv => whnf
  refine ⟨⟨s.size, 1, 13⟩, rfl, ?_⟩
  rintro _ _ ⟨rfl, rfl⟩
  conv => whnf
  refine br2 (fun h1 => ?_) (fun h1 => ?_)
  · have h2 : ¬ (1 ≤ (s.size : Int) ∧ (s.size : Int) ≤ 13) := by
      replace h1 : (!(decide (1 ≤ (s.size : Int)) && decide ((s.size : Int) ≤ 13))) = true := h1
      intro h; rw [decide_eq_true h.1, decide_eq_true h.2] at h1; cases h1
    conv => whnf
    exact ⟨⟨rfl, 0, false, rfl, textNum_none fun k hk e => by
      have h3 := numL_len (n := k) (k := 12) (by omega)
      have h4 := numL_pos k
      rw [← e, of_size] at h2; omega⟩⟩
  have h4 : 1 ≤ (s.size : Int) ∧ (s.size : Int) ≤ 13 := by
    replace h1 : (!(decide (1 ≤ (s.size : Int)) && decide ((s.size : Int) ≤ 13))) = false := h1
    simpa using h1
  conv => whnf
  refine ⟨fun m st h => ∃ (i : Nat), i ≤ s.size ∧ (∀ j d, j < i → (bs s)[j]? = some d → IsDig d) ∧ m = s.size - i ∧ st = [(0, .lf (.string s)), (4, .lf (.int .i64 (dval ((bs s).take i)))), (5, .lf (.int .i64 i))] ∧ h = [],
    s.size, [], [(0, .lf (.string s)), (4, .lf (.int .i64 0)), (5, .lf (.int .i64 0))], [], ⟨rfl, ⟨rfl, rfl, rfl, trivial⟩, trivial⟩, ⟨0, by omega, fun j d h => by omega, by omega, rfl, rfl⟩, ?_⟩
  rintro m _ _ ⟨i, g1, g2, rfl, rfl, rfl⟩
  have hbs : (bs s).length = s.size := bs_len s
  have hv := dval_take g2 (by omega)
  have hp : 10 ^ i ≤ 10 ^ 13 := Nat.pow_le_pow_right (by omega) (by omega)
  conv => whnf
  refine br2 (fun h5 => ?_) (fun h5 => ?_)
  · have hi : i < s.size := by have h6 : (i : Int) < (s.size : Int) := of_decide_eq_true h5; omega
    have hlt : (i : Int) < (s.size : Int) := by omega
    obtain ⟨d, hd⟩ := getL (l := bs s) (show i < (bs s).length by omega)
    have hb : bt s (i : Int) = (d.toNat : Int) := by rw [bt_bsD, List.getD_eq_getElem?_getD, hd]; rfl
    have bad : ¬ IsDig d → TextNumR s 0 false := fun hn => textNum_none fun k hk e => by
      have e2 : bs s = numL k := by rw [← e, bs_of]
      exact hn (numL_dig k d (by rw [← e2]; exact List.mem_of_getElem? hd))
    conv => whnf
    refine ⟨Int.natCast_nonneg _, hlt, ?_⟩
    conv => whnf
    refine br2 (fun h6 => ?_) (fun h6 => ?_)
    · have h7 : bt s (i : Int) < 48 := of_decide_eq_true h6
      conv => whnf
      exact ⟨⟨rfl, 0, false, rfl, bad fun h => by have := h.1; omega⟩⟩
    have h7 : ¬ bt s (i : Int) < 48 := of_decide_eq_false h6
    conv => whnf
    refine ⟨Int.natCast_nonneg _, hlt, ?_⟩
    conv => whnf
    refine br2 (fun h8 => ?_) (fun h8 => ?_)
    · have h9 : bt s (i : Int) > 57 := of_decide_eq_true h8
      conv => whnf
      exact ⟨⟨rfl, 0, false, rfl, bad fun h => by have := h.2; omega⟩⟩
    have h9 : ¬ bt s (i : Int) > 57 := of_decide_eq_false h8
    have hdig : IsDig d := ⟨by omega, by omega⟩
    conv => whnf
    refine ⟨Int.natCast_nonneg _, hlt, ?_⟩
    conv => whnf
    refine ⟨s.size - (i + 1), [], [(0, .lf (.string s)), (4, .lf (.int .i64 (dval ((bs s).take (i + 1))))), (5, .lf (.int .i64 ((i + 1 : Nat) : Int)))], [], by omega, ⟨rfl, ⟨rfl, ?_, ?_, trivial⟩, trivial⟩, i + 1, by omega, fun j d' hj hd' => ?_, rfl, rfl, rfl⟩
    · show V.lf (.int .i64 (IntKind.i64.wrap (IntKind.i64.wrap (10 * (dval ((bs s).take i) : Int)) + IntKind.i64.wrap (IntKind.u8.wrap (bt s (i : Int) - 48))))) = _
      have e1 : IntKind.u8.wrap (bt s (i : Int) - 48) = bt s (i : Int) - 48 := by
        rw [w8]; unfold b8; simp; omega
      have e2 : dval ((bs s).take (i + 1)) = dval ((bs s).take i) * 10 + (d.toNat - 48) := by rw [List.take_add_one, hd, Option.toList_some, dval_snoc]
      rw [e1, hb, e2, w64 (n := (d.toNat : Int) - 48) (by omega) (by omega), w64 (n := 10 * (dval ((bs s).take i) : Int)) (by omega) (by omega), w64 (by omega) (by omega)]
      congr 3; omega
    · show V.lf (.int .i64 (IntKind.i64.wrap ((i : Int) + 1))) = _
      rw [w64 (by omega) (by omega)]; rfl
    · rcases Nat.lt_or_ge j i with h10 | h10
      · exact g2 j d' h10 hd'
      · obtain rfl : j = i := by omega
        rw [hd] at hd'; cases hd'; exact hdig
  obtain rfl : i = s.size := by have h6 : ¬ (i : Int) < (s.size : Int) := of_decide_eq_false h5; omega
  rw [List.take_of_length_le (by omega)] at *
  have val : ∀ k, ofB (numL k) = s → dval (bs s) = k := fun k e => by rw [← e, bs_of, dval_numL]
  generalize hn : dval (bs s) = n at *
  conv => whnf
  refine ⟨⟨n, by omega, by omega⟩, rfl, ?_⟩
  rintro _ _ ⟨rfl, rfl⟩
  conv => whnf
  refine br2 (fun h7 => ?_) (fun h7 => ?_)
  · replace h7 : (!strEq (numT (n : Int)) s) = true := h7
    rw [Bool.not_eq_true', strEq_no] at h7
    conv => whnf
    exact ⟨⟨rfl, 0, false, rfl, textNum_none fun k hk e => h7 (by rw [val k e, numT_yes hk, e])⟩⟩
  · replace h7 : (!strEq (numT (n : Int)) s) = false := h7
    rw [Bool.not_eq_false', strEq_iff] at h7
    have h8 : numB (n : Int) = true := by
      cases h9 : numB (n : Int) with
      | true => rfl
      | false => rw [numT_no h9] at h7; rw [← h7] at h4; revert h4; decide
    conv => whnf
    exact ⟨⟨rfl, (n : Int), true, rfl, fun _ => ⟨h8, h7⟩, fun h => (by cases h), fun k hk e => ⟨rfl, by rw [val k e]⟩⟩⟩
theorem iTextNum_ok : FnOk Tryz.prog 130 cTextNum := fnOk_of fun x => fnX_at tab_ok (SOk.cons within_ok (SOk.cons iNumText_ok SOk.nil)) mixed (fn := Tryz.f130) (code := body Tryz.f130) ⟨Tryz.func130, rfl, by kernel_rfl, by kernel_rfl, by kernel_rfl, by kernel_rfl⟩ (ev_iTextNum x)
end Go.Vm
namespace Go.Vm
open Go.Proofs
set_option maxRecDepth 100000
set_option linter.unusedVariables false
set_option linter.unusedSimpArgs false

/-- The parts of a list between the elements that are c. -/
def parts (c : UInt8) : List UInt8 → List (List UInt8)
  | [] => [[]]
  | d :: l => if d = c then [] :: parts c l else match parts c l with
    | p :: r => (d :: p) :: r
    | [] => [[d]]
theorem parts_ne (c : UInt8) (l : List UInt8) : parts c l ≠ [] := by
  cases l with
  | nil => simp [parts]
  | cons d l => unfold parts; split; simp; split <;> simp
/-- What is cut so far, and what is not yet closed. -/
theorem parts_snoc (c : UInt8) (l : List UInt8) (d : UInt8) : ∃ (r : List (List UInt8)) (p : List UInt8), parts c l = r ++ [p] ∧ parts c (l ++ [d]) = if d = c then r ++ [p, []] else r ++ [p ++ [d]] := by
  induction l with
  | nil =>
    refine ⟨[], [], rfl, ?_⟩
    by_cases h : d = c <;> simp [parts, h]
  | cons a l ih =>
    obtain ⟨r, p, h1, h2⟩ := ih
    by_cases ha : a = c
    · refine ⟨[] :: r, p, by simp [parts, ha, h1], ?_⟩
      rw [List.cons_append, parts, if_pos ha, h2]
      split <;> simp
    · cases r with
      | nil =>
        refine ⟨[], a :: p, by simp [parts, ha, h1], ?_⟩
        rw [List.cons_append, parts, if_neg ha, h2]
        by_cases h : d = c <;> simp [h]
      | cons q r =>
        refine ⟨(a :: q) :: r, p, by simp [parts, ha, h1], ?_⟩
        rw [List.cons_append, parts, if_neg ha, h2]
        by_cases h : d = c <;> simp [h]
theorem parts_plain {c : UInt8} {l : List UInt8} (h : ∀ d ∈ l, d ≠ c) : parts c l = [l] := by
  induction l with
  | nil => rfl
  | cons d l ih =>
    rw [parts, if_neg (h d (List.mem_cons_self ..)), ih fun x hx => h x (List.mem_cons_of_mem _ hx)]
theorem parts_cut {c : UInt8} {l m : List UInt8} (h : ∀ d ∈ l, d ≠ c) : parts c (l ++ c :: m) = l :: parts c m := by
  induction l with
  | nil => simp [parts]
  | cons d l ih =>
    rw [List.cons_append, parts, if_neg (h d (List.mem_cons_self ..)), ih fun x hx => h x (List.mem_cons_of_mem _ hx)]
def partsT (s : ByteArray) : List ByteArray := (parts 46 (bs s)).map ofB
end Go.Vm
namespace Go.Vm
open Go.Proofs
set_option maxRecDepth 100000
set_option linter.unusedVariables false
set_option linter.unusedSimpArgs false

theorem cut_eq {s : ByteArray} {f i : Nat} : ofB (((bs s).take i).drop f) = s.extract f i := by
  apply ByteArray.ext
  apply Array.ext'
  simp [ofB, bs, List.drop_take]
def encSD (s : ByteArray) : List D := [.lf (.string s)]
structure SplX where
  s : ByteArray
  h : s.size ≤ 1048576
def cParts : Con := pureC SplX [(.rd, false), (.rd, false)] [false] (fun x => [[.lf (.string x.s)], [.lf (.int .u8 46)]]) (fun x => [[.row 1 encSD (partsT x.s)]])
theorem ev_l07Parts : ∀ x, evFnX tab [(1000003, cGh)] cParts Tryz.f68 (body Tryz.f68) x := by
  rintro ⟨s, hs⟩
  have hbs : (bs s).length = s.size := bs_len s
  conv => whnf
  refine ⟨[.row 128], ?_⟩
  conv => whnf
  refine ⟨ByteArray, encSD, [], fun _ => rfl, rfl, ?_⟩
  conv => whnf
  let S (i f : Nat) : Sl := [(7, .lf (.int .i64 i)), (6, .lf (.int .i64 f)), (5, .sl 128 none), (1, .lf (.int .u8 46)), (0, .lf (.string s))]
  let H (r : List ByteArray) : Hp := [(128, some (.row .own 1 encSD r))]
  refine ⟨fun m st h => ∃ (i f : Nat) (r : List (List UInt8)), i ≤ s.size ∧ f ≤ i ∧ r.length ≤ i ∧ parts 46 ((bs s).take i) = r ++ [((bs s).take i).drop f] ∧ m = s.size - i ∧ st = S i f ∧ h = H (r.map ofB),
    s.size, [(128, 128)], S 0 0, H [], ⟨rfl, ⟨rfl, rfl, rfl, rfl, rfl, trivial⟩, rfl, trivial⟩, ⟨0, 0, [], by omega, by omega, by simp, rfl, by omega, rfl, rfl⟩, ?_⟩
  rintro m _ _ ⟨i, f, r, g1, g2, g3, g4, rfl, rfl, rfl⟩
  have hw : ∀ {k : Nat}, k ≤ 1048576 → V.lf (.int .i64 (IntKind.i64.wrap ((k : Int) + 1))) = V.lf (.int .i64 ((k + 1 : Nat) : Int)) := fun h => by rw [w64 (by omega) (by omega)]; rfl
  conv => whnf
  refine br2 (fun h5 => ?_) (fun h5 => ?_)
  · have hi : i < s.size := by have h6 : (i : Int) < (s.size : Int) := of_decide_eq_true h5; omega
    have hlt : (i : Int) < (s.size : Int) := by omega
    obtain ⟨d, hd⟩ := getL (l := bs s) (show i < (bs s).length by omega)
    have hb : bt s (i : Int) = (d.toNat : Int) := by rw [bt_bsD, List.getD_eq_getElem?_getD, hd]; rfl
    obtain ⟨r', p', e1, e2⟩ := parts_snoc 46 ((bs s).take i) d
    rw [g4] at e1
    obtain ⟨rfl, e3⟩ := List.append_inj' e1 rfl
    obtain rfl : ((bs s).take i).drop f = p' := by simpa using e3
    have htk : (bs s).take (i + 1) = (bs s).take i ++ [d] := by rw [List.take_add_one, hd]; rfl
    rw [← htk] at e2
    conv => whnf
    refine ⟨Int.natCast_nonneg _, hlt, ?_⟩
    conv => whnf
    refine br2 (fun h6 => ?_) (fun h6 => ?_)
    · have h7 : d = 46 := by
        have h8 : bt s (i : Int) = 46 := eq_of_beq h6
        exact UInt8.toNat_inj.1 (by show d.toNat = 46; omega)
      rw [if_pos h7] at e2
      conv => whnf
      refine ⟨Int.natCast_nonneg _, Int.ofNat_le.2 g2, Int.ofNat_le.2 g1, ?_⟩
      conv => whnf
      refine ⟨[s.extract f i], rfl, ?_, ?_⟩
      · show (r.map ofB).length + 1 ≤ 4294967296
        rw [List.length_map]; omega
      conv => whnf
      refine ⟨s.size - (i + 1), [(416, 128)], S (i + 1) (i + 1), H (r.map ofB ++ [s.extract f i]), by omega, ⟨rfl, ⟨hw (by omega), hw (by omega), rfl, rfl, rfl, trivial⟩, by rfl, trivial⟩, i + 1, i + 1, r ++ [((bs s).take i).drop f], by omega, by omega, by simp; omega, ?_, rfl, rfl, ?_⟩
      · rw [e2, List.drop_of_length_le (show ((bs s).take (i + 1)).length ≤ i + 1 by rw [List.length_take]; omega)]; simp
      · rw [List.map_append, List.map_singleton, cut_eq]
    · have h7 : d ≠ 46 := by
        intro e
        replace h6 : (bt s (i : Int) == 46) = false := h6
        rw [hb, e] at h6; simp at h6
      rw [if_neg h7] at e2
      conv => whnf
      refine ⟨s.size - (i + 1), [(128, 128)], S (i + 1) f, H (r.map ofB), by omega, ⟨rfl, ⟨hw (by omega), rfl, rfl, rfl, rfl, trivial⟩, rfl, trivial⟩, i + 1, f, r, by omega, by omega, by omega, ?_, rfl, rfl, rfl⟩
      rw [e2, htk, List.drop_append_of_le_length (by rw [List.length_take]; omega)]
  have hi : i = s.size := by have h6 : ¬ (i : Int) < (s.size : Int) := of_decide_eq_false h5; omega
  subst hi
  rw [List.take_of_length_le (by omega)] at g4
  conv => whnf
  refine ⟨Int.natCast_nonneg _, Int.ofNat_le.2 g2, Int.le_refl _, ?_⟩
  conv => whnf
  refine ⟨[s.extract f s.size], rfl, ?_, ?_⟩
  · show (r.map ofB).length + 1 ≤ 4294967296
    rw [List.length_map]; omega
  conv => whnf
  refine ⟨⟨rfl, ?_⟩⟩
  show [[D.row 1 encSD (r.map ofB ++ [s.extract f s.size])]] = [[D.row 1 encSD (partsT s)]]
  rw [partsT, g4, List.map_append, List.map_singleton, ← cut_eq (i := s.size), List.take_of_length_le (by omega)]
theorem l07Parts_ok : FnOk Tryz.prog 68 cParts := fnOk_of fun x => fnX_at tab_ok (SOk.cons gh_ok SOk.nil) mixed (fn := Tryz.f68) (code := body Tryz.f68) ⟨Tryz.func68, rfl, by kernel_rfl, by kernel_rfl, by kernel_rfl, by kernel_rfl⟩ (ev_l07Parts x)
end Go.Vm
namespace Go.Vm
open Go.Proofs
set_option maxRecDepth 100000
set_option linter.unusedVariables false
set_option linter.unusedSimpArgs false

theorem args2 {w : World} {R Kp : Nat → Prop} {a b : Value} : ∀ {args : List Value} {Fs : List (Nat → Prop)}, ArgsR w R Kp [(.rd, false), (.rd, false)] [[.lf a], [.lf b]] args Fs → args = [a, b]
  | [x, y], [F, G], h => by
    obtain ⟨⟨cs, hc, hl, A, g1, g2, g3⟩, ⟨cs', hc', hl', A', g1', g2', g3'⟩, _⟩ := h
    have e1 : cs = [x] := hc.1
    have e2 : cs' = [y] := hc'.1
    subst e1 e2
    have h1 := (g1 0 (Nat.zero_lt_one)).1
    have h2 := (g1' 0 (Nat.zero_lt_one)).1
    have h3 : x = a := (Ro.lf_inv h1).1
    have h4 : y = b := (Ro.lf_inv h2).1
    rw [h3, h4]
  | [], _, h => h.elim
  | [_], [], h => h.elim
  | [_], _ :: _, h => h.2.elim
  | _ :: _ :: _, [], h => h.elim
  | _ :: _ :: _, [_], h => h.2.elim
  | _ :: _ :: _ :: _, _ :: _ :: _, h => h.2.2.elim
  | [_, _], _ :: _ :: _ :: _, h => h.2.2.elim
theorem one_sc {v : Value} (h : isSc v = true) : v.oneCell' = true := by
  cases v <;> first | rfl | (revert h; decide) | simp_all [isSc]
theorem extern2 {P : Program} {f : FuncId} {X : Type} {a b r : X → Value} (hsc : ∀ x, isSc (r x) = true) (h : ∀ x w, (callFunc f #[a x, b x]).run P w = .ok (.value (r x)) w) :
    FnOk P f (pureC X [(.rd, false), (.rd, false)] [false] (fun x => [[.lf (a x)], [.lf (b x)]]) (fun x => [[.lf (r x)]])) := by
  intro x w args R Kp Fs ha _ _ _ _
  obtain rfl := args2 ha
  refine .inr ⟨r x, w, h x w, [], [[.lf (r x)]], fun _ => False, [r x], [fun _ => False], [], ⟨rfl, rfl⟩, Shape.refl w, fun _ _ _ => rfl, fun _ h => h.elim, ?_, rfl, trivial, ?_, ?_, ?_⟩
  · refine ⟨⟨[r x], ⟨rfl, one_sc (hsc x)⟩, rfl, fun _ _ => False, fun f hf => ?_, ?_, ?_⟩, trivial⟩
    · obtain rfl : f = 0 := by simp at hf; omega
      exact Own.lf (hsc x) (fun _ h => h)
    · intro i j _ _ _ x h; exact h.elim
    · intro x; exact ⟨fun h => h.elim, fun ⟨_, _, h⟩ => h⟩
  · exact List.pairwise_singleton _ _
  · rintro y ⟨F, hF, hy⟩
    simp at hF
    subst hF; exact hy.elim
  · rintro y ⟨F, hF, hy⟩
    simp at hF
    subst hF; exact hy.elim
def cnt (s : ByteArray) : Int := ((bs s).count 46 : Nat)
def idx (s : ByteArray) : Int := Lib.indexByte (bs s) 46
def cCnt : Con := pureC ByteArray [(.rd, false), (.rd, false)] [false] (fun s => [[.lf (.string s)], [.lf (.int .u8 46)]]) (fun s => [[.lf (.int .i64 (cnt s))]])
def cIdxD : Con := pureC ByteArray [(.rd, false), (.rd, false)] [false] (fun s => [[.lf (.string s)], [.lf (.int .u8 46)]]) (fun s => [[.lf (.int .i64 (idx s))]])
def cCntS : Con := pureC ByteArray [(.rd, false), (.rd, false)] [false] (fun s => [[.lf (.string s)], [.lf (.string ⟨#[46]⟩)]]) (fun s => [[.lf (.int .i64 (cnt s))]])
def cIdxS : Con := pureC ByteArray [(.rd, false), (.rd, false)] [false] (fun s => [[.lf (.string s)], [.lf (.string ⟨#[46]⟩)]]) (fun s => [[.lf (.int .i64 (idx s))]])
theorem count_run (s : ByteArray) (w : World) : (callFunc 211 #[.string s, .int .u8 46]).run Tryz.prog w = .ok (.value (.int .i64 (cnt s))) w := by
  rw [run_callFunc_extern (fn := Tryz.f211) (by kernel_rfl) (by kernel_rfl) (by kernel_rfl) (by kernel_rfl) (e := Extern.BytealgCount.count) (by kernel_rfl), Lib.run_countString]
  rfl
theorem index_run (s : ByteArray) (w : World) : (callFunc 218 #[.string s, .int .u8 46]).run Tryz.prog w = .ok (.value (.int .i64 (idx s))) w := by
  rw [run_callFunc_extern (fn := Tryz.f218) (by kernel_rfl) (by kernel_rfl) (by kernel_rfl) (by kernel_rfl) (e := Extern.BytealgIndexByte.indexByte) (by kernel_rfl), Lib.run_indexByteString]
  rfl
theorem countS_ok : FnOk Tryz.prog 211 cCnt := extern2 (a := fun s => .string s) (b := fun _ => .int .u8 46) (r := fun s => .int .i64 (cnt s)) (fun _ => rfl) count_run
theorem indexBS_ok : FnOk Tryz.prog 218 cIdxD := extern2 (a := fun s => .string s) (b := fun _ => .int .u8 46) (r := fun s => .int .i64 (idx s)) (fun _ => rfl) index_run
theorem ev_indexB : ∀ x, evFnX tab [(218, cIdxD)] cIdxD Tryz.f214 (body Tryz.f214) x := by
  intro (s : ByteArray)
  conv => whnf
  refine ⟨s, rfl, ?_⟩
  rintro _ _ ⟨rfl, rfl⟩
  conv => whnf
  exact ⟨⟨rfl, rfl⟩⟩
theorem indexB_ok : FnOk Tryz.prog 214 cIdxD := fnOk_of fun x => fnX_at tab_ok (SOk.cons indexBS_ok SOk.nil) mixed (fn := Tryz.f214) (code := body Tryz.f214) ⟨Tryz.func214, rfl, by kernel_rfl, by kernel_rfl, by kernel_rfl, by kernel_rfl⟩ (ev_indexB x)
theorem ev_count : ∀ x, evFnX tab [(211, cCnt)] cCntS Tryz.f202 (body Tryz.f202) x := by
  intro (s : ByteArray)
  conv => whnf
  refine ⟨by decide, by decide, ?_⟩
  conv => whnf
  refine ⟨s, rfl, ?_⟩
  rintro _ _ ⟨rfl, rfl⟩
  conv => whnf
  exact ⟨⟨rfl, rfl⟩⟩
theorem count_ok : FnOk Tryz.prog 202 cCntS := fnOk_of fun x => fnX_at tab_ok (SOk.cons countS_ok SOk.nil) mixed (fn := Tryz.f202) (code := body Tryz.f202) ⟨Tryz.func202, rfl, by kernel_rfl, by kernel_rfl, by kernel_rfl, by kernel_rfl⟩ (ev_count x)
theorem ev_index0 : ∀ x, evFnX tab [(214, cIdxD)] cIdxS Tryz.f212 (body Tryz.f212) x := by
  intro (s : ByteArray)
  conv => whnf
  refine br2 (fun h => ?_) (fun _ => ?_)
  · have h2 : ⟨#[46]⟩ = s := strEq_iff.1 h
    conv => whnf
    refine ⟨⟨rfl, ?_⟩⟩
    show _ = [[D.lf (.int .i64 (idx s))]]
    rw [← h2]; rfl
  conv => whnf
  refine ⟨by decide, by decide, ?_⟩
  conv => whnf
  refine ⟨s, rfl, ?_⟩
  rintro _ _ ⟨rfl, rfl⟩
  conv => whnf
  exact ⟨⟨rfl, rfl⟩⟩
theorem index0_ok : FnOk Tryz.prog 212 cIdxS := fnOk_of fun x => fnX_at tab_ok (SOk.cons indexB_ok SOk.nil) mixed (fn := Tryz.f212) (code := body Tryz.f212) ⟨Tryz.func212, rfl, by kernel_rfl, by kernel_rfl, by kernel_rfl, by kernel_rfl⟩ (ev_index0 x)
theorem ev_index : ∀ x, evFnX tab [(212, cIdxS)] cIdxS Tryz.f203 (body Tryz.f203) x := by
  intro (s : ByteArray)
  conv => whnf
  refine ⟨s, rfl, ?_⟩
  rintro _ _ ⟨rfl, rfl⟩
  conv => whnf
  exact ⟨⟨rfl, rfl⟩⟩
theorem index_ok : FnOk Tryz.prog 203 cIdxS := fnOk_of fun x => fnX_at tab_ok (SOk.cons index0_ok SOk.nil) mixed (fn := Tryz.f203) (code := body Tryz.f203) ⟨Tryz.func203, rfl, by kernel_rfl, by kernel_rfl, by kernel_rfl, by kernel_rfl⟩ (ev_index x)
/-- Where the byte stands first. -/
theorem idx_hit {l : List UInt8} : ∀ {m : Nat}, Lib.indexByte l 46 = (m : Int) → m < l.length ∧ l = l.take m ++ 46 :: l.drop (m + 1) ∧ ∀ d ∈ l.take m, d ≠ 46 := by
  induction l with
  | nil => intro m h; have h' : (-1 : Int) = (m : Int) := h; omega
  | cons d l ih =>
    intro m h
    unfold Lib.indexByte at h
    by_cases hd : d = 46
    · rw [if_pos (by simp [hd])] at h
      obtain rfl : m = 0 := by omega
      subst hd
      exact ⟨by simp, rfl, by simp⟩
    · rw [if_neg (by simp [hd])] at h
      have hg := Lib.indexByte_ge l 46
      by_cases h1 : (Lib.indexByte l 46 == -1) = true
      · rw [if_pos h1] at h; omega
      · rw [if_neg h1] at h
        have h2 : Lib.indexByte l 46 ≠ -1 := fun e => h1 (by rw [e]; rfl)
        obtain ⟨k, rfl⟩ : ∃ k, m = k + 1 := ⟨m - 1, by omega⟩
        obtain ⟨a1, a2, a3⟩ := ih (m := k) (by omega)
        refine ⟨by simp; omega, ?_, ?_⟩
        · rw [List.take_succ_cons, List.drop_succ_cons, List.cons_append, ← a2]
        · intro x hx
          rw [List.take_succ_cons] at hx
          rcases List.mem_cons.1 hx with rfl | hx
          · exact hd
          · exact a3 x hx
theorem idx_miss {l : List UInt8} (h : Lib.indexByte l 46 < 0) : l.count 46 = 0 := by
  induction l with
  | nil => rfl
  | cons d l ih =>
    unfold Lib.indexByte at h
    by_cases hd : d = 46
    · rw [if_pos (by simp [hd])] at h; omega
    · rw [if_neg (by simp [hd])] at h
      by_cases h1 : (Lib.indexByte l 46 == -1) = true
      · have h2 : Lib.indexByte l 46 = -1 := eq_of_beq h1
        rw [List.count_cons_of_ne (by simpa using hd)]
        exact ih (by omega)
      · rw [if_neg h1] at h
        have hg := Lib.indexByte_ge l 46
        have h2 : Lib.indexByte l 46 ≠ -1 := fun e => h1 (by rw [e]; rfl)
        omega
def cGen : Con := pureC SplX [(.rd, false), (.rd, false), (.rd, false), (.rd, false)] [false] (fun x => [[.lf (.string x.s)], [.lf (.string ⟨#[46]⟩)], [.lf (.int .i64 0)], [.lf (.int .i64 (-1))]]) (fun x => [[.row 1 encSD (partsT x.s)]])
theorem ev_genSplit : ∀ x, evFnX tab [(202, cCntS), (203, cIdxS)] cGen Tryz.f191 (body Tryz.f191) x := by
  rintro ⟨s, hs⟩
  conv => whnf
  refine br2 (fun h => absurd (strEq_iff.1 h) (by decide)) (fun _ => ?_)
  conv => whnf
  refine ⟨s, rfl, ?_⟩
  rintro _ _ ⟨rfl, rfl⟩
  conv => whnf
  have hbs : (bs s).length = s.size := bs_len s
  obtain ⟨c, hc⟩ : ∃ c, (bs s).count 46 = c := ⟨_, rfl⟩
  have hc1 : c ≤ s.size := by rw [← hc, ← hbs]; exact List.count_le_length
  have e0 : cnt s = (c : Int) := by unfold cnt; rw [hc]
  have eN : (if IntKind.i64.wrap ((s.size : Int) + 1) < IntKind.i64.wrap (cnt s + 1) then IntKind.i64.wrap ((s.size : Int) + 1) else IntKind.i64.wrap (cnt s + 1)) = ((c + 1 : Nat) : Int) := by
    rw [e0, w64 (by omega) (by omega), w64 (by omega) (by omega)]
    split <;> omega
  refine ⟨?_, rfl, ?_, ByteArray, encSD, ⟨#[]⟩, fun _ => rfl, rfl, ?_⟩
  · show (0 : Int) ≤ (if IntKind.i64.wrap ((s.size : Int) + 1) < IntKind.i64.wrap (cnt s + 1) then IntKind.i64.wrap ((s.size : Int) + 1) else IntKind.i64.wrap (cnt s + 1))
    rw [eN]; omega
  · show (if IntKind.i64.wrap ((s.size : Int) + 1) < IntKind.i64.wrap (cnt s + 1) then IntKind.i64.wrap ((s.size : Int) + 1) else IntKind.i64.wrap (cnt s + 1)) ≤ 4294967296
    rw [eN]; omega
  conv => whnf
  let S (i : Nat) (t : ByteArray) : Sl := [(10, .lf (.int .i64 i)), (3, .lf (.int .i64 c)), (9, .sl 496 none), (2, .lf (.int .i64 0)), (1, .lf (.string ⟨#[46]⟩)), (0, .lf (.string t))]
  let H (r : List ByteArray) : Hp := [(496, some (.row .own 1 encSD r))]
  refine ⟨fun m st h => ∃ (i : Nat) (t : ByteArray) (r : List ByteArray), i ≤ c ∧ (bs t).count 46 = c - i ∧ t.size ≤ s.size ∧ r.length = i ∧ partsT s = r ++ partsT t ∧ m = c - i ∧ st = S i t ∧ h = H (r ++ List.replicate (c + 1 - i) ⟨#[]⟩),
    c, [(496, 496)], S 0 s, H (List.replicate (c + 1) ⟨#[]⟩), ⟨rfl, ⟨rfl, ?_, rfl, rfl, rfl, rfl, trivial⟩, ?_, trivial⟩, ⟨0, s, [], by omega, by omega, by omega, rfl, rfl, by omega, rfl, rfl⟩, ?_⟩
  · show V.lf (.int .i64 (IntKind.i64.wrap ((if IntKind.i64.wrap ((s.size : Int) + 1) < IntKind.i64.wrap (cnt s + 1) then IntKind.i64.wrap ((s.size : Int) + 1) else IntKind.i64.wrap (cnt s + 1)) - 1))) = _
    rw [eN, w64 (by omega) (by omega), show ((c + 1 : Nat) : Int) - 1 = (c : Int) by omega]
  · show some (Ob.row .own 1 encSD (List.replicate (if IntKind.i64.wrap ((s.size : Int) + 1) < IntKind.i64.wrap (cnt s + 1) then IntKind.i64.wrap ((s.size : Int) + 1) else IntKind.i64.wrap (cnt s + 1)).toNat ⟨#[]⟩)) = _
    rw [eN]; rfl
  rintro m _ _ ⟨i, t, r, g1, g2, g3, g4, g5, rfl, rfl, rfl⟩
  have hbt : (bs t).length = t.size := bs_len t
  have hL : (r ++ List.replicate (c + 1 - i) (⟨#[]⟩ : ByteArray)).length = c + 1 := by simp; omega
  conv => whnf
  refine br2 (fun h5 => ?_) (fun h5 => ?_)
  · have hi : i < c := by have h6 : (i : Int) < (c : Int) := of_decide_eq_true h5; omega
    conv => whnf
    refine ⟨t, rfl, ?_⟩
    rintro _ _ ⟨rfl, rfl⟩
    conv => whnf
    refine br2 (fun h6 => ?_) (fun h6 => ?_)
    · exfalso
      have h7 : idx t < 0 := of_decide_eq_true h6
      have := idx_miss (l := bs t) h7
      omega
    have h7 : ¬ idx t < 0 := of_decide_eq_false h6
    obtain ⟨k, hk⟩ : ∃ k : Nat, idx t = (k : Int) := ⟨(idx t).toNat, by omega⟩
    obtain ⟨k1, k2, k3⟩ := idx_hit (l := bs t) hk
    have w0 : IntKind.i64.wrap (idx t + 0) = (k : Int) := by rw [hk, Int.add_zero, w64 (by omega) (by omega)]
    have w1 : IntKind.i64.wrap (idx t + 1) = ((k + 1 : Nat) : Int) := by rw [hk, w64 (by omega) (by omega)]; rfl
    let X : ByteArray := t.extract (0 : Int).toNat (IntKind.i64.wrap (idx t + 0)).toNat
    let T : ByteArray := t.extract (IntKind.i64.wrap (idx t + 1)).toNat t.size
    have hX : X = ofB ((bs t).take k) := by
      show t.extract 0 (IntKind.i64.wrap (idx t + 0)).toNat = _
      rw [w0, Int.toNat_natCast, ← cut_eq, List.drop_zero]
    have hT : bs T = (bs t).drop (k + 1) := by
      show bs (t.extract (IntKind.i64.wrap (idx t + 1)).toNat t.size) = _
      rw [w1, Int.toNat_natCast, ← cut_eq, bs_of, List.take_of_length_le (by omega)]
    have hT2 : T.size ≤ s.size := by rw [← bs_len, hT, List.length_drop]; omega
    have hcnt : (bs T).count 46 = c - (i + 1) := by
      have h8 := g2
      rw [k2, List.count_append, List.count_cons_self, List.count_eq_zero.2 (fun hm => k3 46 hm rfl)] at h8
      rw [hT]; omega
    have hparts : partsT t = X :: partsT T := by
      unfold partsT
      rw [k2, parts_cut k3, List.map_cons, ← hX, hT]
    have hset : (r ++ List.replicate (c + 1 - i) (⟨#[]⟩ : ByteArray)).set i X = (r ++ [X]) ++ List.replicate (c + 1 - (i + 1)) ⟨#[]⟩ := by
      obtain ⟨n, hn⟩ : ∃ n, c + 1 - i = n + 1 := ⟨c - i, by omega⟩
      rw [hn, show c + 1 - (i + 1) = n by omega, List.set_append_right _ _ (by omega), g4, Nat.sub_self, List.replicate_succ, List.set_cons_zero]
      simp
    obtain ⟨z, hz⟩ := getL (l := r ++ List.replicate (c + 1 - i) (⟨#[]⟩ : ByteArray)) (show i < _ by rw [hL]; omega)
    conv => whnf
    refine ⟨Int.le_refl _, by rw [w0]; omega, by rw [w0]; omega, ?_⟩
    conv => whnf
    refine ⟨Int.natCast_nonneg _, (show (i : Int) < ((r ++ List.replicate (c + 1 - i) (⟨#[]⟩ : ByteArray)).length : Int) by rw [hL]; omega), ?_⟩
    conv => whnf
    refine ex2 z (nthI hz) ?_
    conv => whnf
    refine ⟨X, rfl, ?_⟩
    conv => whnf
    refine ⟨by show 0 ≤ IntKind.i64.wrap (idx t + 1); rw [w1]; omega, by show IntKind.i64.wrap (idx t + 1) ≤ (t.size : Int); rw [w1]; omega, Int.le_refl _, ?_⟩
    conv => whnf
    refine ⟨c - (i + 1), [(496, 496)], S (i + 1) T, H ((r ++ [X]) ++ List.replicate (c + 1 - (i + 1)) ⟨#[]⟩), by omega, ⟨rfl, ⟨?_, rfl, rfl, rfl, rfl, rfl, trivial⟩, ?_, trivial⟩, i + 1, T, r ++ [X], by omega, hcnt, hT2, by simp; omega, by rw [g5, hparts]; simp, rfl, rfl, rfl⟩
    · show V.lf (.int .i64 (IntKind.i64.wrap ((i : Int) + 1))) = _
      rw [w64 (by omega) (by omega)]; rfl
    · show some (Ob.row .own 1 encSD ((r ++ List.replicate (c + 1 - i) (⟨#[]⟩ : ByteArray)).set i X)) = _
      rw [hset]
  have hi : i = c := by have h6 : ¬ (i : Int) < (c : Int) := of_decide_eq_false h5; omega
  subst hi
  have hset : (r ++ List.replicate (i + 1 - i) (⟨#[]⟩ : ByteArray)).set i t = partsT s := by
    have hp : partsT t = [t] := by
      unfold partsT
      rw [parts_plain fun d hd => fun e => ?_]
      · rw [List.map_singleton, of_bs]
      · have := List.count_pos_iff.2 (e ▸ hd : (46 : UInt8) ∈ bs t)
        omega
    rw [g5, hp, show i + 1 - i = 0 + 1 by omega, List.set_append_right _ _ (by omega), g4, Nat.sub_self]
    rfl
  obtain ⟨z, hz⟩ := getL (l := r ++ List.replicate (i + 1 - i) (⟨#[]⟩ : ByteArray)) (show i < _ by rw [hL]; omega)
  have w1 : IntKind.i64.wrap ((i : Int) + 1) = ((i + 1 : Nat) : Int) := by rw [w64 (by omega) (by omega)]; rfl
  conv => whnf
  refine ⟨Int.natCast_nonneg _, (show (i : Int) < ((r ++ List.replicate (i + 1 - i) (⟨#[]⟩ : ByteArray)).length : Int) by rw [hL]; omega), ?_⟩
  conv => whnf
  refine ex2 z (nthI hz) ?_
  conv => whnf
  refine ⟨t, rfl, ?_⟩
  conv => whnf
  refine ⟨Int.le_refl _, by rw [w1]; omega, ?_, ?_⟩
  · show IntKind.i64.wrap ((i : Int) + 1) ≤ (((r ++ List.replicate (i + 1 - i) (⟨#[]⟩ : ByteArray)).set i t).length : Int)
    rw [w1, List.length_set, hL]; omega
  conv => whnf
  refine ⟨ByteArray, encSD, _, fun _ => rfl, rfl, ?_⟩
  conv => whnf
  refine ⟨⟨rfl, ?_⟩⟩
  show [[D.row 1 encSD ((((r ++ List.replicate (i + 1 - i) (⟨#[]⟩ : ByteArray)).set i t).drop 0).take (IntKind.i64.wrap ((i : Int) + 1) - 0).toNat)]] = [[D.row 1 encSD (partsT s)]]
  have hl2 : (partsT s).length = i + 1 := by rw [← hset, List.length_set, hL]
  rw [hset, w1, List.drop_zero, List.take_of_length_le (by omega)]
theorem genSplit_ok : FnOk Tryz.prog 191 cGen := fnOk_of fun x => fnX_at tab_ok (SOk.cons count_ok (SOk.cons index_ok SOk.nil)) mixed (fn := Tryz.f191) (code := body Tryz.f191) ⟨Tryz.func191, rfl, by kernel_rfl, by kernel_rfl, by kernel_rfl, by kernel_rfl⟩ (ev_genSplit x)
def cSplit : Con := pureC SplX [(.rd, false), (.rd, false)] [false] (fun x => [[.lf (.string x.s)], [.lf (.string ⟨#[46]⟩)]]) (fun x => [[.row 1 encSD (partsT x.s)]])
theorem ev_split : ∀ x, evFnX tab [(191, cGen)] cSplit Tryz.f162 (body Tryz.f162) x := by
  rintro ⟨s, hs⟩
  conv => whnf
  refine ⟨⟨s, hs⟩, rfl, ?_⟩
  rintro _ _ ⟨rfl, rfl⟩
  conv => whnf
  exact ⟨⟨rfl, rfl⟩⟩
theorem split_ok : FnOk Tryz.prog 162 cSplit := fnOk_of fun x => fnX_at tab_ok (SOk.cons genSplit_ok SOk.nil) mixed (fn := Tryz.f162) (code := body Tryz.f162) ⟨Tryz.func162, rfl, by kernel_rfl, by kernel_rfl, by kernel_rfl, by kernel_rfl⟩ (ev_split x)
end Go.Vm
namespace Go.Vm
open Go.Proofs
set_option maxRecDepth 100000
set_option linter.unusedVariables false
set_option linter.unusedSimpArgs false

def dot : ByteArray := ⟨#[46]⟩
def txJ (x : TxX) : ByteArray := numT x.c ++ dot ++ numT x.e ++ dot ++ numT x.n
def txT (x : TxX) : ByteArray := if txOkB x then txJ x else ⟨#[]⟩
def cTxText : Con := pureC TxX [(.rd, true)] [false] (fun x => [x.ds]) (fun x => [[.lf (.string (txT x))]])
theorem ev_iTxText : ∀ x, evFnX tab [(102, cTxOk), (56, cNumText)] cTxText Tryz.f55 (body Tryz.f55) x := by
  rintro ⟨c, e, n⟩
  conv => whnf
  refine ⟨⟨c, e, n⟩, rfl, ?_⟩
  rintro _ _ ⟨rfl, rfl⟩
  conv => whnf
  refine br2 (fun h => ?_) (fun h => ?_)
  · have h2 : txOkB ⟨c, e, n⟩ = false := by simpa using h
    conv => whnf
    refine ⟨⟨rfl, ?_⟩⟩
    show _ = [[D.lf (.string (txT ⟨c, e, n⟩))]]
    rw [txT, if_neg (by rw [h2]; simp)]
  have h2 : txOkB ⟨c, e, n⟩ = true := by simpa using h
  obtain ⟨b1, b2, b3, b4, b5, b6⟩ : 0 ≤ c ∧ c ≤ 7 ∧ 1 ≤ e ∧ e ≤ 999 ∧ 1 ≤ n ∧ n ≤ 999 := by
    simp [txOkB] at h2; omega
  have s1 := numT_size c
  have s2 := numT_size e
  have s3 := numT_size n
  have d1 : dot.size = 1 := rfl
  have q1 : (numT c).size + dot.size ≤ 4294967296 := by omega
  have q2 : (numT c ++ dot).size + (numT e).size ≤ 4294967296 := by rw [ByteArray.size_append]; omega
  have q3 : (numT c ++ dot ++ numT e).size + dot.size ≤ 4294967296 := by rw [ByteArray.size_append, ByteArray.size_append]; omega
  have q4 : (numT c ++ dot ++ numT e ++ dot).size + (numT n).size ≤ 4294967296 := by rw [ByteArray.size_append, ByteArray.size_append, ByteArray.size_append]; omega
  have fin : [[D.lf (.string (txJ ⟨c, e, n⟩))]] = [[D.lf (.string (txT ⟨c, e, n⟩))]] := by rw [txT, if_pos h2]
  repeat' ((conv => whnf); first
    | refine rc_i rfl ?_
    | refine rc_i ⟨q1, rfl⟩ ?_
    | refine rc_i ⟨q2, rfl⟩ ?_
    | refine rc_i ⟨q3, rfl⟩ ?_
    | refine rc_i ⟨q4, rfl⟩ ?_
    | (refine ⟨⟨c, by omega, by omega⟩, rfl, ?_⟩; rintro _ _ ⟨rfl, rfl⟩)
    | (refine ⟨⟨e, by omega, by omega⟩, rfl, ?_⟩; rintro _ _ ⟨rfl, rfl⟩)
    | (refine ⟨⟨n, by omega, by omega⟩, rfl, ?_⟩; rintro _ _ ⟨rfl, rfl⟩)
    | refine ⟨q1, ?_⟩
    | refine ⟨q2, ?_⟩
    | refine ⟨q3, ?_⟩
    | refine ⟨q4, ?_⟩
    | exact ⟨⟨rfl, fin⟩⟩
    | refine ⟨?_, ?_⟩)
theorem iTxText_ok : FnOk Tryz.prog 55 cTxText := fnOk_of fun x => fnX_at tab_ok (SOk.cons iTxOk_ok (SOk.cons iNumText_ok SOk.nil)) mixed (fn := Tryz.f55) (code := body Tryz.f55) ⟨Tryz.func55, rfl, by kernel_rfl, by kernel_rfl, by kernel_rfl, by kernel_rfl⟩ (ev_iTxText x)
theorem ev_sTxText : ∀ x, evFnX tab [(82, cTxOk), (83, cNumText)] cTxText Tryz.f40 (body Tryz.f40) x := by
  rintro ⟨c, e, n⟩
  conv => whnf
  refine ⟨⟨c, e, n⟩, rfl, ?_⟩
  rintro _ _ ⟨rfl, rfl⟩
  conv => whnf
  refine br2 (fun h => ?_) (fun h => ?_)
  · have h2 : txOkB ⟨c, e, n⟩ = false := by simpa using h
    conv => whnf
    refine ⟨⟨rfl, ?_⟩⟩
    show _ = [[D.lf (.string (txT ⟨c, e, n⟩))]]
    rw [txT, if_neg (by rw [h2]; simp)]
  have h2 : txOkB ⟨c, e, n⟩ = true := by simpa using h
  obtain ⟨b1, b2, b3, b4, b5, b6⟩ : 0 ≤ c ∧ c ≤ 7 ∧ 1 ≤ e ∧ e ≤ 999 ∧ 1 ≤ n ∧ n ≤ 999 := by
    simp [txOkB] at h2; omega
  have s1 := numT_size c
  have s2 := numT_size e
  have s3 := numT_size n
  have d1 : dot.size = 1 := rfl
  have q1 : (numT c).size + dot.size ≤ 4294967296 := by omega
  have q2 : (numT c ++ dot).size + (numT e).size ≤ 4294967296 := by rw [ByteArray.size_append]; omega
  have q3 : (numT c ++ dot ++ numT e).size + dot.size ≤ 4294967296 := by rw [ByteArray.size_append, ByteArray.size_append]; omega
  have q4 : (numT c ++ dot ++ numT e ++ dot).size + (numT n).size ≤ 4294967296 := by rw [ByteArray.size_append, ByteArray.size_append, ByteArray.size_append]; omega
  have fin : [[D.lf (.string (txJ ⟨c, e, n⟩))]] = [[D.lf (.string (txT ⟨c, e, n⟩))]] := by rw [txT, if_pos h2]
  repeat' ((conv => whnf); first
    | refine rc_i rfl ?_
    | refine rc_i ⟨q1, rfl⟩ ?_
    | refine rc_i ⟨q2, rfl⟩ ?_
    | refine rc_i ⟨q3, rfl⟩ ?_
    | refine rc_i ⟨q4, rfl⟩ ?_
    | (refine ⟨⟨c, by omega, by omega⟩, rfl, ?_⟩; rintro _ _ ⟨rfl, rfl⟩)
    | (refine ⟨⟨e, by omega, by omega⟩, rfl, ?_⟩; rintro _ _ ⟨rfl, rfl⟩)
    | (refine ⟨⟨n, by omega, by omega⟩, rfl, ?_⟩; rintro _ _ ⟨rfl, rfl⟩)
    | refine ⟨q1, ?_⟩
    | refine ⟨q2, ?_⟩
    | refine ⟨q3, ?_⟩
    | refine ⟨q4, ?_⟩
    | exact ⟨⟨rfl, fin⟩⟩
    | refine ⟨?_, ?_⟩)
theorem sTxText_ok : FnOk Tryz.prog 40 cTxText := fnOk_of fun x => fnX_at tab_ok (SOk.cons sTxOk_ok (SOk.cons sNumText_ok SOk.nil)) mixed (fn := Tryz.f40) (code := body Tryz.f40) ⟨Tryz.func40, rfl, by kernel_rfl, by kernel_rfl, by kernel_rfl, by kernel_rfl⟩ (ev_sTxText x)
theorem dot_numL {k : Nat} : ∀ d ∈ numL k, d ≠ 46 := fun d hd e => by have := (numL_dig k d hd).1; rw [e] at this; revert this; decide
theorem txT_parts {x : TxX} (h : txOkB x = true) : partsT (txT x) = [ofB (numL x.c.toNat), ofB (numL x.e.toNat), ofB (numL x.n.toNat)] ∧ (txT x).size ≤ 9 := by
  obtain ⟨c, e, n⟩ := x
  obtain ⟨b1, b2, b3, b4, b5, b6⟩ : 0 ≤ c ∧ c ≤ 7 ∧ 1 ≤ e ∧ e ≤ 999 ∧ 1 ≤ n ∧ n ≤ 999 := by
    simp [txOkB] at h; omega
  obtain ⟨c, rfl⟩ : ∃ k : Nat, c = k := ⟨c.toNat, by omega⟩
  obtain ⟨e, rfl⟩ : ∃ k : Nat, e = k := ⟨e.toNat, by omega⟩
  obtain ⟨n, rfl⟩ : ∃ k : Nat, n = k := ⟨n.toNat, by omega⟩
  have e1 : bs (txT ⟨c, e, n⟩) = numL c ++ 46 :: (numL e ++ 46 :: numL n) := by
    rw [txT, if_pos h]
    simp only [txJ]
    rw [numT_yes (by omega), numT_yes (by omega), numT_yes (by omega)]
    simp [bs, ofB, dot]
  refine ⟨?_, ?_⟩
  · unfold partsT
    rw [e1, parts_cut dot_numL, parts_cut dot_numL, parts_plain dot_numL]
    rfl
  · have l1 := numL_len (n := c) (k := 0) (by omega)
    have l2 := numL_len (n := e) (k := 2) (by omega)
    have l3 := numL_len (n := n) (k := 2) (by omega)
    rw [← bs_len, e1]
    simp; omega
def tx0 : TxX := ⟨0, 0, 0⟩
/-- The transaction whose name this is. -/
structure TextTxR (s : ByteArray) (x : TxX) (ok : Bool) : Prop where
  yes : ok = true → txT x = s ∧ txOkB x = true
  no : ok = false → x = tx0
  all : ∀ q, txOkB q = true → txT q = s → ok = true ∧ x = q
theorem textTx_none {s : ByteArray} (h : ∀ q, txOkB q = true → txT q = s → False) : TextTxR s tx0 false := ⟨fun e => (by cases e), fun _ => rfl, fun q h1 h2 => (h q h1 h2).elim⟩
theorem textTx_end {s : ByteArray} {x : TxX} (hs : s ≠ ⟨#[]⟩) (h : ∀ q, txOkB q = true → txT q = s → x = q) : (txT x = s → TextTxR s x true) ∧ (txT x ≠ s → TextTxR s tx0 false) := by
  refine ⟨fun e => ⟨fun _ => ⟨e, ?_⟩, fun e => (by cases e), fun q h1 h2 => ⟨rfl, h q h1 h2⟩⟩, fun e => textTx_none fun q h1 h2 => e (by rw [h q h1 h2]; exact h2)⟩
  cases h1 : txOkB x with
  | true => rfl
  | false => rw [txT, if_neg (by rw [h1]; simp)] at e; exact absurd e.symm hs
def cTextTx : Con := relC SplX [(.rd, false)] [true, false] (fun x => [[.lf (.string x.s)]]) (fun x r => ∃ q ok, r = [q.ds, [.lf (.bool ok)]] ∧ TextTxR x.s q ok)
theorem tx_num {q : TxX} (h : txOkB q = true) : (q.c.toNat ≤ 1099511627775 ∧ (q.c.toNat : Int) = q.c) ∧ (q.e.toNat ≤ 1099511627775 ∧ (q.e.toNat : Int) = q.e) ∧ (q.n.toNat ≤ 1099511627775 ∧ (q.n.toNat : Int) = q.n) := by
  simp [txOkB] at h; omega
theorem tx_three {s : ByteArray} {a b d : ByteArray} {v1 v2 v3 : Int} {o1 o2 o3 : Bool} (hp : partsT s = [a, b, d]) (h1 : TextNumR a v1 o1) (h2 : TextNumR b v2 o2) (h3 : TextNumR d v3 o3) : ∀ q, txOkB q = true → txT q = s → (⟨v1, v2, v3⟩ : TxX) = q := by
  intro q hq e
  obtain ⟨p1, _⟩ := txT_parts hq
  rw [e, hp] at p1
  obtain ⟨⟨n1, m1⟩, ⟨n2, m2⟩, n3, m3⟩ := tx_num hq
  simp only [List.cons.injEq, and_true] at p1
  obtain ⟨y1, y2, y3⟩ := p1
  rw [(h1.all _ n1 y1.symm).2, (h2.all _ n2 y2.symm).2, (h3.all _ n3 y3.symm).2, m1, m2, m3]
theorem empty_parts : partsT ⟨#[]⟩ = [⟨#[]⟩] := rfl
theorem ev_iTextTx : ∀ x, evFnX tab [(162, cSplit), (130, cTextNum), (55, cTxText)] cTextTx Tryz.f108 (body Tryz.f108) x := by
  rintro ⟨s, hs⟩
  conv => whnf
  refine ⟨⟨s, hs⟩, rfl, ?_⟩
  rintro _ _ ⟨rfl, rfl⟩
  conv => whnf
  intro _
  conv => whnf
  refine br2 (fun h => ?_) (fun h => ?_)
  · have h2 : (partsT s).length ≠ 3 := fun e => by
      replace h : (((partsT s).length : Int) != 3) = true := h
      rw [e] at h; simp at h
    conv => whnf
    exact ⟨⟨rfl, tx0, false, rfl, textTx_none fun q hq e => h2 (by have e2 : txT q = s := e; rw [← e2, (txT_parts hq).1]; rfl)⟩⟩
  have h2 : (partsT s).length = 3 := by
    replace h : (((partsT s).length : Int) != 3) = false := h
    simp at h; omega
  obtain ⟨a, b, d, hp⟩ : ∃ a b d, partsT s = [a, b, d] := by
    match hl : partsT s, h2 with
    | [a, b, d], _ => exact ⟨a, b, d, rfl⟩
  have hne : s ≠ ⟨#[]⟩ := fun e => by rw [e, empty_parts] at h2; cases h2
  have hT := @tx_three s a b d
  replace hT := fun v1 v2 v3 o1 o2 o3 => @hT v1 v2 v3 o1 o2 o3 hp
  generalize hl : partsT (⟨s, hs⟩ : SplX).s = l at *
  subst hp
  conv => whnf
  refine ⟨of_decide_eq_true rfl, of_decide_eq_true rfl, ?_⟩
  conv => whnf
  refine ⟨a, rfl, ?_⟩
  rintro _ _ ⟨rfl, v1, o1, rfl, n1⟩
  conv => whnf
  refine ⟨of_decide_eq_true rfl, of_decide_eq_true rfl, ?_⟩
  conv => whnf
  refine ⟨b, rfl, ?_⟩
  rintro _ _ ⟨rfl, v2, o2, rfl, n2⟩
  conv => whnf
  refine ⟨of_decide_eq_true rfl, of_decide_eq_true rfl, ?_⟩
  conv => whnf
  refine ⟨d, rfl, ?_⟩
  rintro _ _ ⟨rfl, v3, o3, rfl, n3⟩
  obtain ⟨f1, f2⟩ := textTx_end (x := ⟨v1, v2, v3⟩) hne (hT _ _ _ _ _ _ n1 n2 n3)
  conv => whnf
  refine ⟨⟨v1, v2, v3⟩, rfl, ?_⟩
  rintro _ _ ⟨rfl, rfl⟩
  conv => whnf
  refine br2 (fun h3 => ?_) (fun h3 => ?_)
  · replace h3 : (!strEq (txT ⟨v1, v2, v3⟩) s) = true := h3
    rw [Bool.not_eq_true', strEq_no] at h3
    conv => whnf
    exact ⟨⟨rfl, tx0, false, rfl, f2 h3⟩⟩
  · replace h3 : (!strEq (txT ⟨v1, v2, v3⟩) s) = false := h3
    rw [Bool.not_eq_false', strEq_iff] at h3
    conv => whnf
    exact ⟨⟨rfl, ⟨v1, v2, v3⟩, true, rfl, f1 h3⟩⟩
theorem iTextTx_ok : FnOk Tryz.prog 108 cTextTx := fnOk_of fun x => fnX_at tab_ok (SOk.cons split_ok (SOk.cons iTextNum_ok (SOk.cons iTxText_ok SOk.nil))) mixed (fn := Tryz.f108) (code := body Tryz.f108) ⟨Tryz.func108, rfl, by kernel_rfl, by kernel_rfl, by kernel_rfl, by kernel_rfl⟩ (ev_iTextTx x)
def encID (n : Int) : List D := [.lf (.int .i64 n)]
theorem ev_sTextTx : ∀ x, evFnX tab [(1000004, cGh), (68, cParts), (69, cTextNum), (40, cTxText)] cTextTx Tryz.f70 (body Tryz.f70) x := by
  rintro ⟨s, hs⟩
  conv => whnf
  refine br2 (fun h => ?_) (fun h => ?_)
  · have h2 : (s.size : Int) > 9 := of_decide_eq_true h
    conv => whnf
    exact ⟨⟨rfl, tx0, false, rfl, textTx_none fun q hq e => by have e2 : txT q = s := e; have := (txT_parts hq).2; rw [e2] at this; omega⟩⟩
  conv => whnf
  refine ⟨[.row 192], ?_⟩
  conv => whnf
  refine ⟨Int, encID, [0, 0, 0], fun _ => rfl, rfl, ?_⟩
  conv => whnf
  refine ⟨⟨s, hs⟩, rfl, ?_⟩
  rintro _ _ ⟨rfl, rfl⟩
  conv => whnf
  intro hlen
  replace hlen : (partsT s).length ≤ 9223372036854775807 := hlen
  conv => whnf
  have hP : ∀ q, txOkB q = true → txT q = s → partsT s = [ofB (numL q.c.toNat), ofB (numL q.e.toNat), ofB (numL q.n.toNat)] := fun q hq e => by rw [← e]; exact (txT_parts hq).1
  let S (i : Nat) : Sl := [(16, .lf (.int .i64 i)), (15, .lf (.int .i64 (partsT s).length)), (14, .sl 224 none), (4, .sl 192 none), (2, .pt 32 0 0), (0, .lf (.string s))]
  let H (vs : List Int) : Hp := [(224, some (.row .own 1 encSD (partsT s))), (192, some (.row .own 1 encID vs)), (32, some (.arr true 3 [[.lf (.int .i64 0), .lf (.int .i64 0), .lf (.int .i64 0)]]))]
  refine ⟨fun m st h => ∃ (i : Nat) (vs : List Int), i ≤ (partsT s).length ∧ vs.length = 3 ∧ (∀ q, txOkB q = true → txT q = s → vs.take i = [q.c, q.e, q.n].take i) ∧ m = (partsT s).length - i ∧ st = S i ∧ h = H vs,
    (partsT s).length, [(224, 224), (192, 192), (32, 32)], S 0, H [0, 0, 0], ⟨rfl, ⟨rfl, rfl, rfl, rfl, rfl, rfl, trivial⟩, rfl, rfl, rfl, trivial⟩, ⟨0, [0, 0, 0], by omega, rfl, fun _ _ _ => rfl, rfl, rfl, rfl⟩, ?_⟩
  rintro m _ _ ⟨i, vs, g1, g2, g3, rfl, rfl, rfl⟩
  conv => whnf
  refine br2 (fun h5 => ?_) (fun h5 => ?_)
  · have hi : i < (partsT s).length := by have h6 : (i : Int) < ((partsT s).length : Int) := of_decide_eq_true h5; omega
    obtain ⟨a, ha⟩ := getL hi
    have hw : V.lf (.int .i64 (IntKind.i64.wrap ((i : Int) + 1))) = V.lf (.int .i64 ((i + 1 : Nat) : Int)) := by rw [w64 (by omega) (by omega)]; rfl
    conv => whnf
    refine ⟨Int.natCast_nonneg _, (show (i : Int) < ((partsT s).length : Int) by omega), ?_⟩
    conv => whnf
    refine ex2 a (nthI ha) ?_
    conv => whnf
    refine br2 (fun h6 => ?_) (fun h6 => ?_)
    · have hi3 : i < 3 := by have h7 : (i : Int) < 3 := of_decide_eq_true h6; omega
      obtain ⟨z, hz⟩ := getL (l := vs) (show i < vs.length by omega)
      conv => whnf
      refine ⟨a, rfl, ?_⟩
      rintro _ _ ⟨rfl, v, ok, rfl, hN⟩
      conv => whnf
      refine ⟨Int.natCast_nonneg _, (show (i : Int) < (vs.length : Int) by omega), ?_⟩
      conv => whnf
      refine ex2 z (nthI hz) ?_
      conv => whnf
      refine ⟨v, rfl, ?_⟩
      conv => whnf
      refine ⟨(partsT s).length - (i + 1), [(224, 224), (192, 192), (32, 32)], S (i + 1), H (vs.set i v), by omega, ⟨rfl, ⟨hw, rfl, rfl, rfl, rfl, rfl, trivial⟩, rfl, rfl, rfl, trivial⟩, i + 1, vs.set i v, by omega, by simp; omega, fun q hq e => ?_, rfl, rfl, rfl⟩
      have hp := hP q hq e
      obtain ⟨⟨n1, m1⟩, ⟨n2, m2⟩, n3, m3⟩ := tx_num hq
      rw [List.take_add_one, List.take_add_one, List.take_set_of_le (by omega), List.getElem?_set_self (by omega), g3 q hq e]
      congr 2
      rw [hp] at ha
      rcases (show i = 0 ∨ i = 1 ∨ i = 2 by omega) with rfl | rfl | rfl
      · have e1 : ofB (numL q.c.toNat) = a := by simpa using ha
        rw [(hN.all _ n1 e1).2, m1]; rfl
      · have e1 : ofB (numL q.e.toNat) = a := by simpa using ha
        rw [(hN.all _ n2 e1).2, m2]; rfl
      · have e1 : ofB (numL q.n.toNat) = a := by simpa using ha
        rw [(hN.all _ n3 e1).2, m3]; rfl
    · have hi3 : ¬ i < 3 := by have h7 : ¬ (i : Int) < 3 := of_decide_eq_false h6; omega
      conv => whnf
      refine ⟨(partsT s).length - (i + 1), [(224, 224), (192, 192), (32, 32)], S (i + 1), H vs, by omega, ⟨rfl, ⟨hw, rfl, rfl, rfl, rfl, rfl, trivial⟩, rfl, rfl, rfl, trivial⟩, i + 1, vs, by omega, g2, fun q hq e => ?_, rfl, rfl, rfl⟩
      have := g3 q hq e
      rw [List.take_of_length_le (by omega), List.take_of_length_le (by simp; omega)] at this
      rw [List.take_of_length_le (by omega), List.take_of_length_le (by simp; omega), this]
  have hi : i = (partsT s).length := by have h6 : ¬ (i : Int) < ((partsT s).length : Int) := of_decide_eq_false h5; omega
  obtain ⟨v1, v2, v3, rfl⟩ : ∃ a b c, vs = [a, b, c] := by
    match vs, g2 with
    | [a, b, c], _ => exact ⟨a, b, c, rfl⟩
  have hx : ∀ q, txOkB q = true → txT q = s → (⟨v1, v2, v3⟩ : TxX) = q := fun q hq e => by
    have h8 := g3 q hq e
    have h9 : i = 3 := by rw [hi, hP q hq e]; rfl
    rw [h9] at h8
    simp at h8
    obtain ⟨c, e2, n⟩ := q
    obtain ⟨r1, r2, r3⟩ := h8
    rw [r1, r2, r3]
  clear hi h5 g1 g3
  conv => whnf
  repeat' ((first
    | refine ⟨of_decide_eq_true rfl, of_decide_eq_true rfl, ?_⟩
    | refine rc_i (by (conv => whnf); first | rfl | exact ⟨of_decide_eq_true rfl, of_decide_eq_true rfl, rfl⟩) ?_); conv => whnf)
  refine br2 (fun h3 => ?_) (fun h3 => ?_)
  · have h4 : s = ⟨#[]⟩ := strEq_iff.1 h3
    conv => whnf
    exact ⟨⟨rfl, tx0, false, rfl, textTx_none fun q hq e => by
      have e2 : txT q = s := e
      have h5 := hP q hq e2
      rw [h4, empty_parts] at h5; have h6 := congrArg List.length h5; simp at h6⟩⟩
  have hne : s ≠ ⟨#[]⟩ := strEq_no.1 h3
  obtain ⟨f1, f2⟩ := textTx_end (x := ⟨v1, v2, v3⟩) hne hx
  conv => whnf
  refine ⟨⟨v1, v2, v3⟩, rfl, ?_⟩
  rintro _ _ ⟨rfl, rfl⟩
  conv => whnf
  refine br2 (fun h3 => ?_) (fun h3 => ?_)
  · replace h3 : (!strEq (txT ⟨v1, v2, v3⟩) s) = true := h3
    rw [Bool.not_eq_true', strEq_no] at h3
    conv => whnf
    exact ⟨⟨rfl, tx0, false, rfl, f2 h3⟩⟩
  · replace h3 : (!strEq (txT ⟨v1, v2, v3⟩) s) = false := h3
    rw [Bool.not_eq_false', strEq_iff] at h3
    conv => whnf
    exact ⟨⟨rfl, ⟨v1, v2, v3⟩, true, rfl, f1 h3⟩⟩
theorem sTextTx_ok : FnOk Tryz.prog 70 cTextTx := fnOk_of fun x => fnX_at tab_ok (SOk.cons gh_ok (SOk.cons l07Parts_ok (SOk.cons sTextNum_ok (SOk.cons sTxText_ok SOk.nil)))) mixed (fn := Tryz.f70) (code := body Tryz.f70) ⟨Tryz.func70, rfl, by kernel_rfl, by kernel_rfl, by kernel_rfl, by kernel_rfl⟩ (ev_sTextTx x)
end Go.Vm
namespace Go.Vm
open Go.Proofs
set_option maxRecDepth 100000
set_option linter.unusedVariables false
set_option linter.unusedSimpArgs false

/-- A record's bytes. -/
def recB (r : RecX) : List UInt8 :=
  if r.kind = 1 then 119 :: (encT r.key ++ encT r.val)
  else if r.kind = 2 then 103 :: encT r.key
  else if r.kind = 3 then 115 :: (encT r.lo ++ encT r.hi)
  else 120 :: (encT r.lo ++ encT r.hi)
def recT (r : RecX) : ByteArray := if recOkB r then ofB (recB r) else ⟨#[]⟩
def cRecText : Con := pureC RecX [(.rd, true)] [false] (fun r => [r.ds]) (fun r => [[.lf (.string (recT r))]])

theorem recOk_1 {r : RecX} (h : recOkB r = true) (h1 : r.kind = 1) : r.key.size ≤ 8 ∧ r.val.size ≤ 20 := by
  simp [recOkB, h1, userOkB, uvalOkB] at h; omega
theorem recOk_2 {r : RecX} (h : recOkB r = true) (h1 : r.kind = 2) : r.key.size ≤ 8 := by
  simp [recOkB, h1, userOkB] at h; omega
theorem recOk_34 {r : RecX} (h : recOkB r = true) (h1 : ¬ r.kind = 1) (h2 : ¬ r.kind = 2) : (r.kind = 3 ∨ r.kind = 4) ∧ r.lo.size ≤ 9 ∧ r.hi.size ≤ 9 := by
  simp only [recOkB, if_neg h1, if_neg h2] at h
  split at h
  · rename_i h3
    simp [reachOkB] at h
    exact ⟨h3, by omega, by omega⟩
  · cases h

theorem ev_iRecText : ∀ x, evFn tab [(105, cRecOk), (107, cText)] cRecText Tryz.f57 (body Tryz.f57) x := by
  rintro ⟨kind, key, val, lo, hi⟩
  conv => whnf
  refine ⟨⟨kind, key, val, lo, hi⟩, rfl, ?_⟩
  rintro _ _ ⟨rfl, rfl⟩
  conv => whnf
  refine br2 (fun h1 => ?_) (fun h1 => ?_)
  · conv => whnf
    refine ⟨⟨rfl, ?_⟩⟩
    have h1' : recOkB ⟨kind, key, val, lo, hi⟩ = false := by simpa using h1
    show _ = [[D.lf (.string (recT ⟨kind, key, val, lo, hi⟩))]]
    simp [recT, h1']
  have h1' : recOkB ⟨kind, key, val, lo, hi⟩ = true := by simpa using h1
  conv => whnf
  refine br2 (fun h2 => ?_) (fun h2 => ?_)
  · have h2' : kind = 1 := by simpa using h2
    obtain ⟨q1, q2⟩ : key.size ≤ 8 ∧ val.size ≤ 20 := recOk_1 h1' h2'
    conv => whnf
    repeat (refine ⟨rfl, ?_⟩; conv => whnf)
    refine ⟨UInt8, encB, [119], encB_len, rfl, ?_⟩
    conv => whnf
    refine ⟨⟨[119], key, by simp, by omega⟩, rfl, ?_⟩
    rintro _ _ ⟨rfl, rfl⟩
    conv => whnf
    repeat (refine ⟨rfl, ?_⟩; conv => whnf)
    refine ⟨⟨[119] ++ encT key, val, ?_, by omega⟩, rfl, ?_⟩
    · have := varB_len (n := key.size) (by omega)
      simp [encT, bs_len]; omega
    rintro _ _ ⟨rfl, rfl⟩
    conv => whnf
    repeat (refine ⟨rfl, ?_⟩; conv => whnf)
    refine ⟨[119] ++ encT key ++ encT val, rfl, ?_⟩
    conv => whnf
    repeat (refine ⟨rfl, ?_⟩; conv => whnf)
    show [[D.lf (.string (ofB ([119] ++ encT key ++ encT val)))]] = [[D.lf (.string (recT ⟨kind, key, val, lo, hi⟩))]]
    rw [show recT ⟨kind, key, val, lo, hi⟩ = ofB (recB ⟨kind, key, val, lo, hi⟩) from if_pos h1']
    simp [recB, h2']
  have h2' : ¬ kind = 1 := by simpa using h2
  conv => whnf
  refine br2 (fun h3 => ?_) (fun h3 => ?_)
  · have h3' : kind = 2 := by simpa using h3
    have q1 : key.size ≤ 8 := recOk_2 h1' h3'
    conv => whnf
    refine ⟨UInt8, encB, [103], encB_len, rfl, ?_⟩
    conv => whnf
    refine ⟨⟨[103], key, by simp, by omega⟩, rfl, ?_⟩
    rintro _ _ ⟨rfl, rfl⟩
    conv => whnf
    refine ⟨[103] ++ encT key, rfl, ?_⟩
    conv => whnf
    refine ⟨⟨rfl, ?_⟩⟩
    show [[D.lf (.string (ofB ([103] ++ encT key)))]] = [[D.lf (.string (recT ⟨kind, key, val, lo, hi⟩))]]
    rw [show recT ⟨kind, key, val, lo, hi⟩ = ofB (recB ⟨kind, key, val, lo, hi⟩) from if_pos h1']
    simp [recB, h3']
  have h3' : ¬ kind = 2 := by simpa using h3
  obtain ⟨q0, q1, q2⟩ : (kind = 3 ∨ kind = 4) ∧ lo.size ≤ 9 ∧ hi.size ≤ 9 := recOk_34 h1' h2' h3'
  conv => whnf
  refine br2 (fun h4 => ?_) (fun h4 => ?_)
  · have h4' : kind = 3 := by simpa using h4
    conv => whnf
    repeat (refine ⟨rfl, ?_⟩; conv => whnf)
    refine ⟨UInt8, encB, [115], encB_len, rfl, ?_⟩
    conv => whnf
    refine ⟨⟨[115], lo, by simp, by omega⟩, rfl, ?_⟩
    rintro _ _ ⟨rfl, rfl⟩
    conv => whnf
    repeat (refine ⟨rfl, ?_⟩; conv => whnf)
    refine ⟨⟨[115] ++ encT lo, hi, ?_, by omega⟩, rfl, ?_⟩
    · have := varB_len (n := lo.size) (by omega)
      simp [encT, bs_len]; omega
    rintro _ _ ⟨rfl, rfl⟩
    conv => whnf
    repeat (refine ⟨rfl, ?_⟩; conv => whnf)
    refine ⟨[115] ++ encT lo ++ encT hi, rfl, ?_⟩
    conv => whnf
    repeat (refine ⟨rfl, ?_⟩; conv => whnf)
    show [[D.lf (.string (ofB ([115] ++ encT lo ++ encT hi)))]] = [[D.lf (.string (recT ⟨kind, key, val, lo, hi⟩))]]
    rw [show recT ⟨kind, key, val, lo, hi⟩ = ofB (recB ⟨kind, key, val, lo, hi⟩) from if_pos h1']
    simp [recB, h4']
  have h4' : ¬ kind = 3 := by simpa using h4
  conv => whnf
  repeat (refine ⟨rfl, ?_⟩; conv => whnf)
  refine ⟨UInt8, encB, [120], encB_len, rfl, ?_⟩
  conv => whnf
  refine ⟨⟨[120], lo, by simp, by omega⟩, rfl, ?_⟩
  rintro _ _ ⟨rfl, rfl⟩
  conv => whnf
  repeat (refine ⟨rfl, ?_⟩; conv => whnf)
  refine ⟨⟨[120] ++ encT lo, hi, ?_, by omega⟩, rfl, ?_⟩
  · have := varB_len (n := lo.size) (by omega)
    simp [encT, bs_len]; omega
  rintro _ _ ⟨rfl, rfl⟩
  conv => whnf
  repeat (refine ⟨rfl, ?_⟩; conv => whnf)
  refine ⟨[120] ++ encT lo ++ encT hi, rfl, ?_⟩
  conv => whnf
  repeat (refine ⟨rfl, ?_⟩; conv => whnf)
  show [[D.lf (.string (ofB ([120] ++ encT lo ++ encT hi)))]] = [[D.lf (.string (recT ⟨kind, key, val, lo, hi⟩))]]
  rw [show recT ⟨kind, key, val, lo, hi⟩ = ofB (recB ⟨kind, key, val, lo, hi⟩) from if_pos h1']
  simp [recB, h2', h3', h4']
theorem iRecText_ok : FnOk Tryz.prog 57 cRecText := fnOk_of fun x => fn_at tab_ok (SOk.cons iRecOk_ok (SOk.cons iText_ok SOk.nil)) mixed (fn := Tryz.f57) (code := body Tryz.f57) ⟨Tryz.func57, rfl, by kernel_rfl, by kernel_rfl, by kernel_rfl, by kernel_rfl⟩ (ev_iRecText x)
end Go.Vm
namespace Go.Vm
open Go.Proofs
set_option maxRecDepth 100000
set_option linter.unusedVariables false
set_option linter.unusedSimpArgs false

theorem encT_len (s : ByteArray) : (encT s).length = (varB s.size).length + s.size := by simp [encT, bs_len]
theorem putTL_eq {l : List UInt8} {s : ByteArray} (h : l.length + s.size ≤ 4000) : putTL l s = l ++ encT s := by
  have := varB_len (n := s.size) (by omega)
  unfold putTL putTB
  rw [if_pos (decide_eq_true (by rw [encT_len]; omega))]
theorem recOk_kind {r : RecX} (h : recOkB r = true) : r.kind = 1 ∨ r.kind = 2 ∨ r.kind = 3 ∨ r.kind = 4 := by
  by_cases h1 : r.kind = 1
  · exact .inl h1
  · by_cases h2 : r.kind = 2
    · exact .inr (.inl h2)
    · rcases (recOk_34 h h1 h2).1 with h3 | h3
      · exact .inr (.inr (.inl h3))
      · exact .inr (.inr (.inr h3))

theorem ev_sRecText : ∀ x, evFn tab [(169, cRecOk), (170, cPutText)] cRecText Tryz.f123 (body Tryz.f123) x := by
  rintro ⟨kind, key, val, lo, hi⟩
  conv => whnf
  refine ⟨⟨kind, key, val, lo, hi⟩, rfl, ?_⟩
  rintro _ _ ⟨rfl, rfl⟩
  conv => whnf
  refine br2 (fun h1 => ?_) (fun h1 => ?_)
  · conv => whnf
    refine ⟨⟨rfl, ?_⟩⟩
    have h1' : recOkB ⟨kind, key, val, lo, hi⟩ = false := by simpa using h1
    show _ = [[D.lf (.string (recT ⟨kind, key, val, lo, hi⟩))]]
    simp [recT, h1']
  have h1' : recOkB ⟨kind, key, val, lo, hi⟩ = true := by simpa using h1
  rcases (recOk_kind h1' : kind = 1 ∨ kind = 2 ∨ kind = 3 ∨ kind = 4) with rfl | rfl | rfl | rfl
  · obtain ⟨q1, q2⟩ : key.size ≤ 8 ∧ val.size ≤ 20 := recOk_1 h1' rfl
    have e1 : putTL [119] key = [119] ++ encT key := putTL_eq (by simp; omega)
    have l1 := varB_len (n := key.size) (by omega)
    have e2 : putTL ([119] ++ encT key) val = [119] ++ encT key ++ encT val := putTL_eq (by simp [encT_len]; omega)
    conv => whnf
    refine ⟨(by show (0 : Int) ≤ 1; decide), (by show (1 : Int) < 5; decide), ?_⟩
    conv => whnf
    refine ⟨UInt8, encB, [119], encB_len, rfl, ?_⟩
    conv => whnf
    refine ⟨⟨[119], key, by simp, by omega⟩, rfl, ?_⟩
    rintro _ _ ⟨rfl, rfl⟩
    conv => whnf
    refine ⟨⟨putTL [119] key, val, by rw [e1]; simp [encT_len]; omega, by omega⟩, rfl, ?_⟩
    rintro _ _ ⟨rfl, rfl⟩
    conv => whnf
    refine ⟨putTL (putTL [119] key) val, rfl, ?_⟩
    conv => whnf
    refine ⟨⟨rfl, ?_⟩⟩
    show [[D.lf (.string (ofB (putTL (putTL [119] key) val)))]] = [[D.lf (.string (recT ⟨1, key, val, lo, hi⟩))]]
    rw [e1, e2, show recT ⟨1, key, val, lo, hi⟩ = ofB (recB ⟨1, key, val, lo, hi⟩) from if_pos h1']
    simp [recB]
  · have q1 : key.size ≤ 8 := recOk_2 h1' rfl
    have e1 : putTL [103] key = [103] ++ encT key := putTL_eq (by simp; omega)
    conv => whnf
    refine ⟨(by show (0 : Int) ≤ 2; decide), (by show (2 : Int) < 5; decide), ?_⟩
    conv => whnf
    refine ⟨UInt8, encB, [103], encB_len, rfl, ?_⟩
    conv => whnf
    refine ⟨⟨[103], key, by simp, by omega⟩, rfl, ?_⟩
    rintro _ _ ⟨rfl, rfl⟩
    conv => whnf
    refine ⟨putTL [103] key, rfl, ?_⟩
    conv => whnf
    refine ⟨⟨rfl, ?_⟩⟩
    show [[D.lf (.string (ofB (putTL [103] key)))]] = [[D.lf (.string (recT ⟨2, key, val, lo, hi⟩))]]
    rw [e1, show recT ⟨2, key, val, lo, hi⟩ = ofB (recB ⟨2, key, val, lo, hi⟩) from if_pos h1']
    simp [recB]
  · obtain ⟨_, q1, q2⟩ : (_ ∨ _) ∧ lo.size ≤ 9 ∧ hi.size ≤ 9 := recOk_34 h1' (by simp) (by simp)
    have e1 : putTL [115] lo = [115] ++ encT lo := putTL_eq (by simp; omega)
    have l1 := varB_len (n := lo.size) (by omega)
    have e2 : putTL ([115] ++ encT lo) hi = [115] ++ encT lo ++ encT hi := putTL_eq (by simp [encT_len]; omega)
    conv => whnf
    refine ⟨(by show (0 : Int) ≤ 3; decide), (by show (3 : Int) < 5; decide), ?_⟩
    conv => whnf
    refine ⟨UInt8, encB, [115], encB_len, rfl, ?_⟩
    conv => whnf
    refine ⟨⟨[115], lo, by simp, by omega⟩, rfl, ?_⟩
    rintro _ _ ⟨rfl, rfl⟩
    conv => whnf
    refine ⟨⟨putTL [115] lo, hi, by rw [e1]; simp [encT_len]; omega, by omega⟩, rfl, ?_⟩
    rintro _ _ ⟨rfl, rfl⟩
    conv => whnf
    refine ⟨putTL (putTL [115] lo) hi, rfl, ?_⟩
    conv => whnf
    refine ⟨⟨rfl, ?_⟩⟩
    show [[D.lf (.string (ofB (putTL (putTL [115] lo) hi)))]] = [[D.lf (.string (recT ⟨3, key, val, lo, hi⟩))]]
    rw [e1, e2, show recT ⟨3, key, val, lo, hi⟩ = ofB (recB ⟨3, key, val, lo, hi⟩) from if_pos h1']
    simp [recB]
  · obtain ⟨_, q1, q2⟩ : (_ ∨ _) ∧ lo.size ≤ 9 ∧ hi.size ≤ 9 := recOk_34 h1' (by simp) (by simp)
    have e1 : putTL [120] lo = [120] ++ encT lo := putTL_eq (by simp; omega)
    have l1 := varB_len (n := lo.size) (by omega)
    have e2 : putTL ([120] ++ encT lo) hi = [120] ++ encT lo ++ encT hi := putTL_eq (by simp [encT_len]; omega)
    conv => whnf
    refine ⟨(by show (0 : Int) ≤ 4; decide), (by show (4 : Int) < 5; decide), ?_⟩
    conv => whnf
    refine ⟨UInt8, encB, [120], encB_len, rfl, ?_⟩
    conv => whnf
    refine ⟨⟨[120], lo, by simp, by omega⟩, rfl, ?_⟩
    rintro _ _ ⟨rfl, rfl⟩
    conv => whnf
    refine ⟨⟨putTL [120] lo, hi, by rw [e1]; simp [encT_len]; omega, by omega⟩, rfl, ?_⟩
    rintro _ _ ⟨rfl, rfl⟩
    conv => whnf
    refine ⟨putTL (putTL [120] lo) hi, rfl, ?_⟩
    conv => whnf
    refine ⟨⟨rfl, ?_⟩⟩
    show [[D.lf (.string (ofB (putTL (putTL [120] lo) hi)))]] = [[D.lf (.string (recT ⟨4, key, val, lo, hi⟩))]]
    rw [e1, e2, show recT ⟨4, key, val, lo, hi⟩ = ofB (recB ⟨4, key, val, lo, hi⟩) from if_pos h1']
    simp [recB]
theorem sRecText_ok : FnOk Tryz.prog 123 cRecText := fnOk_of fun x => fn_at tab_ok (SOk.cons sRecOk_ok (SOk.cons sPutText_ok SOk.nil)) mixed (fn := Tryz.f123) (code := body Tryz.f123) ⟨Tryz.func123, rfl, by kernel_rfl, by kernel_rfl, by kernel_rfl, by kernel_rfl⟩ (ev_sRecText x)

/-! The scanner -/
structure ScanX where
  l : List UInt8
  a : Int
  bad : Bool
  hl : l.length ≤ 4294967296
  h1 : -9223372036854775808 ≤ a
  h2 : a ≤ 9223372036854775807
/-- What the scanner does where a text is read. -/
structure ScanT (l : List UInt8) (a : Int) (bad : Bool) (t : ByteArray) (a' : Int) (bad' : Bool) : Prop where
  lo : -9223372036854775808 ≤ a'
  hi : a' ≤ 9223372036854775807
  got : ∀ (pre : List UInt8) (u : ByteArray) (post : List UInt8), bad = false → l = pre ++ encT u ++ post → a = pre.length → u.size ≤ 1099511627775 → t = u ∧ a' = pre.length + (encT u).length ∧ bad' = false
end Go.Vm
namespace Go.Vm
open Go.Proofs
set_option maxRecDepth 100000
set_option linter.unusedVariables false
set_option linter.unusedSimpArgs false

structure AskX where
  k : Int
  u : ByteArray
  v : ByteArray
  r : RngX
  n : Int
  b : Bool
def AskX.ds (x : AskX) : List D := [.lf (.int .i64 x.k), .lf (.string x.u), .lf (.string x.v), .lf (.string x.r.lo), .lf (.string x.r.hi), .lf (.int .i64 x.n), .lf (.bool x.b)]
def askB0 (x : AskX) : Prop := x.u.size ≤ 9223372036854775807 ∧ x.v.size ≤ 9223372036854775807 ∧ rngB0 x.r
end Go.Vm
namespace Go.Vm
open Go.Proofs
set_option maxRecDepth 100000
set_option linter.unusedVariables false
set_option linter.unusedSimpArgs false

structure MsgX where
  k : Int
  tx : TxX
  sh : Int
  num : Int
  st : Int
  ask : AskX
  code : Int
  ps : List RngX
  yes : Bool
def MsgX.ds (x : MsgX) : List D := [.lf (.int .i64 x.k), .lf (.int .i64 x.tx.c), .lf (.int .i64 x.tx.e), .lf (.int .i64 x.tx.n), .lf (.int .i64 x.sh), .lf (.int .i64 x.num), .lf (.int .i64 x.st),
  .lf (.int .i64 x.ask.k), .lf (.string x.ask.u), .lf (.string x.ask.v), .lf (.string x.ask.r.lo), .lf (.string x.ask.r.hi), .lf (.int .i64 x.ask.n), .lf (.bool x.ask.b),
  .lf (.int .i64 x.code), .row 2 RngX.ds x.ps, .lf (.bool x.yes)]
def msgB0 (x : MsgX) : Prop := askB0 x.ask ∧ (x.ps.length ≤ 9223372036854775807 ∧ ∀ y ∈ x.ps, rngB0 y)
end Go.Vm
namespace Go.Vm
open Go.Proofs
set_option maxRecDepth 100000
set_option linter.unusedVariables false
set_option linter.unusedSimpArgs false

end Go.Vm
namespace Go.Vm
open Go.Proofs
set_option maxRecDepth 100000
set_option linter.unusedVariables false
set_option linter.unusedSimpArgs false

/-! A message's bytes -/
end Go.Vm
namespace Go.Vm
open Go.Proofs
set_option maxRecDepth 100000
set_option linter.unusedVariables false
set_option linter.unusedSimpArgs false

/-! A message's parts in their order -/
end Go.Vm
namespace Go.Vm
open Go.Proofs
set_option maxRecDepth 100000
set_option maxHeartbeats 4000000
set_option linter.unusedVariables false
set_option linter.unusedSimpArgs false

end Go.Vm
namespace Go.Vm
open Go.Proofs
set_option maxRecDepth 100000
set_option linter.unusedVariables false
set_option linter.unusedSimpArgs false

end Go.Vm
namespace Go.Vm
open Go.Proofs
set_option linter.unusedVariables false
set_option linter.unusedSimpArgs false

end Go.Vm
namespace Go.Vm
open Go.Proofs
set_option maxRecDepth 100000
set_option linter.unusedVariables false
set_option linter.unusedSimpArgs false

def scanS (l : List UInt8) (a : Int) (bad : Bool) : List (List D) := [[.box [.sh (.row 1 encB l), .lf (.int .i64 a), .lf (.bool bad)]]]
def cScanTextS : Con := { X := ScanX, params := [(.mut, false)], res := [false], resOwn := true, ins := (fun x => scanS x.l x.a x.bad), post := fun x outs r => ∃ t a' bad', outs = scanS x.l a' bad' ∧ r = [[.lf (.string t)]] ∧ ScanT x.l x.a x.bad t a' bad' }
theorem ev_scanTextS : ∀ x, evFnX tab [(196, cGetText)] cScanTextS Tryz.f177 (body Tryz.f177) x := by
  rintro ⟨l, a, bad, hl, h1, h2⟩
  conv => whnf
  refine ⟨⟨l, a, hl, h1, h2⟩, rfl, ?_⟩
  rintro _ _ ⟨rfl, t, nx, rfl, hG⟩
  have hG0 : nx = -1 ∧ t = ⟨#[]⟩ ∨ 0 ≤ a ∧ a < nx ∧ nx ≤ l.length ∧ t.size ≤ l.length := hG.1
  conv => whnf
  repeat ((first | refine rc_i rfl ?_ | refine rc_i (fun _ => rfl) ?_); conv => whnf)
  cases bad with
  | true =>
    conv => whnf
    refine ⟨⟨⟨#[]⟩, a, true, rfl, rfl, h1, h2, fun pre u post h => by cases h⟩⟩
  | false =>
    conv => whnf
    refine br2 (fun h3 => ?_) (fun h3 => ?_)
    · have h3' := of_decide_eq_true h3
      conv => whnf
      refine ⟨⟨⟨#[]⟩, a, true, rfl, rfl, h1, h2, fun pre u post _ e1 e2 e3 => ?_⟩⟩
      obtain ⟨_, e5⟩ := hG.2 pre u post e1 e2 e3
      omega
    · have h3' := of_decide_eq_false h3
      conv => whnf
      refine ⟨⟨t, nx, false, rfl, rfl, by omega, by omega, fun pre u post _ e1 e2 e3 => ?_⟩⟩
      obtain ⟨e4, e5⟩ := hG.2 pre u post e1 e2 e3
      exact ⟨e4, e5, rfl⟩
theorem scanTextS_ok : FnOk Tryz.prog 177 cScanTextS := fnOk_of fun x => fnX_at tab_ok (SOk.cons iGetText_ok SOk.nil) mixed (fn := Tryz.f177) (code := body Tryz.f177) ⟨Tryz.func177, rfl, by kernel_rfl, by kernel_rfl, by kernel_rfl, by kernel_rfl⟩ (ev_scanTextS x)
end Go.Vm
namespace Go.Vm
open Go.Proofs
set_option maxRecDepth 100000
set_option linter.unusedVariables false
set_option linter.unusedSimpArgs false

def rec0 : RecX := ⟨0, ⟨#[]⟩, ⟨#[]⟩, ⟨#[]⟩, ⟨#[]⟩⟩
/-- The record whose text this is. -/
structure TextRecR (s : ByteArray) (r : RecX) (ok : Bool) : Prop where
  yes : ok = true → recOkB r = true ∧ recT r = s
  no : ok = false → r = rec0
  all : ∀ q, recOkB q = true → recT q = s → ok = true ∧ r = q
structure StrX where
  s : ByteArray
  hs : s.size ≤ 100000000
def cTextRec : Con := relC StrX [(.rd, false)] [true, false] (fun x => [[.lf (.string x.s)]]) (fun x r => ∃ q ok, r = [q.ds, [.lf (.bool ok)]] ∧ TextRecR x.s q ok)

theorem textRec_none {s : ByteArray} (h : ∀ q, recOkB q = true → recT q ≠ s) : TextRecR s rec0 false := ⟨fun h => (by cases h), fun _ => rfl, fun q h1 h2 => absurd h2 (h q h1)⟩
theorem recT_of {r : RecX} (h : recOkB r = true) : recT r = ofB (recB r) := if_pos h
theorem recB_ne (r : RecX) : 1 ≤ (recB r).length := by unfold recB; split; simp; split; simp; split; simp; simp
theorem textRec_end {s : ByteArray} {r : RecX} (hs : s ≠ ⟨#[]⟩) (h : ∀ q, recOkB q = true → recT q = s → r = q) : (recT r = s → TextRecR s r true) ∧ (recT r ≠ s → TextRecR s rec0 false) := by
  refine ⟨fun e => ⟨fun _ => ⟨?_, e⟩, fun h => (by cases h), fun q h1 h2 => ⟨rfl, h q h1 h2⟩⟩, fun e => textRec_none fun q h1 h2 => e (by rw [h q h1 h2]; exact h2)⟩
  unfold recT at e
  split at e
  · assumption
  · exact absurd e.symm hs
theorem bt_bs (s : ByteArray) (i : Nat) : bt s (i : Int) = (((bs s).getD i 0).toNat : Int) := rfl
/-- The bytes of a record's text. -/
theorem bs_recT {q : RecX} {s : ByteArray} (h1 : recOkB q = true) (h2 : recT q = s) : bs s = recB q := by
  rw [← h2, recT_of h1, bs_of]
theorem rec_sizes {q : RecX} (h : recOkB q = true) : q.key.size ≤ 1099511627775 ∧ q.val.size ≤ 1099511627775 ∧ q.lo.size ≤ 1099511627775 ∧ q.hi.size ≤ 1099511627775 := by
  rcases recOk_kind h with h1 | h1 | h1 | h1
  · have := recOk_1 h h1
    simp [recOkB, h1, emp_iff] at h
    rw [h.2.1, h.2.2]; exact ⟨by omega, by omega, by decide, by decide⟩
  · have := recOk_2 h h1
    simp [recOkB, h1, emp_iff] at h
    rw [h.2.1, h.2.2, h.1.2]; exact ⟨by omega, by decide, by decide, by decide⟩
  · have := recOk_34 h (by omega) (by omega)
    simp [recOkB, h1, emp_iff] at h
    rw [h.1.1, h.1.2]; exact ⟨by decide, by decide, by omega, by omega⟩
  · have := recOk_34 h (by omega) (by omega)
    simp [recOkB, h1, emp_iff] at h
    rw [h.1.1, h.1.2]; exact ⟨by decide, by decide, by omega, by omega⟩
theorem rec_shape {q : RecX} (h : recOkB q = true) : (q.kind = 1 ∧ q = ⟨1, q.key, q.val, ⟨#[]⟩, ⟨#[]⟩⟩ ∧ recB q = [119] ++ encT q.key ++ encT q.val) ∨
    (q.kind = 2 ∧ q = ⟨2, q.key, ⟨#[]⟩, ⟨#[]⟩, ⟨#[]⟩⟩ ∧ recB q = [103] ++ encT q.key) ∨ (q.kind = 3 ∧ q = ⟨3, ⟨#[]⟩, ⟨#[]⟩, q.lo, q.hi⟩ ∧ recB q = [115] ++ encT q.lo ++ encT q.hi) ∨
    (q.kind = 4 ∧ q = ⟨4, ⟨#[]⟩, ⟨#[]⟩, q.lo, q.hi⟩ ∧ recB q = [120] ++ encT q.lo ++ encT q.hi) := by
  obtain ⟨kind, key, val, lo, hi⟩ := q
  rcases (recOk_kind h : kind = 1 ∨ kind = 2 ∨ kind = 3 ∨ kind = 4) with rfl | rfl | rfl | rfl
  · simp [recOkB, emp_iff] at h
    simp [recB, h]
  · simp [recOkB, emp_iff] at h
    simp [recB, h]
  · simp [recOkB, emp_iff] at h
    simp [recB, h]
  · simp [recOkB, emp_iff] at h
    simp [recB, h]

/-- The first byte tells the kind. -/
theorem rec_first {q : RecX} {s : ByteArray} (h1 : recOkB q = true) (h2 : recT q = s) : bt s 0 = (if q.kind = 1 then 119 else if q.kind = 2 then 103 else if q.kind = 3 then 115 else 120) := by
  have h := bt_bs s 0
  rw [bs_recT h1 h2] at h
  rw [show ((0 : Nat) : Int) = 0 from rfl] at h
  rw [h]
  rcases rec_shape h1 with ⟨e, _, e2⟩ | ⟨e, _, e2⟩ | ⟨e, _, e2⟩ | ⟨e, _, e2⟩ <;> rw [e2] <;> simp [e]

/-- What the scanner reads of a record. -/
theorem scan2 {l : List UInt8} {c : UInt8} {x y : ByteArray} {t t' : ByteArray} {a a' : Int} {b b' : Bool} (h : ScanT l 1 false t a b) (h' : ScanT l a b t' a' b') (hl : l = [c] ++ encT x ++ encT y) (hx : x.size ≤ 1099511627775) (hy : y.size ≤ 1099511627775) :
    t = x ∧ t' = y ∧ b' = false := by
  obtain ⟨e1, e2, e3⟩ := h.got [c] x (encT y) rfl hl rfl hx
  obtain ⟨e4, e5, e6⟩ := h'.got ([c] ++ encT x) y [] e3 (by rw [hl]; simp) (by rw [e2]; simp; omega) hy
  exact ⟨e1, e4, e6⟩
theorem scan1 {l : List UInt8} {c : UInt8} {x : ByteArray} {t : ByteArray} {a : Int} {b : Bool} (h : ScanT l 1 false t a b) (hl : l = [c] ++ encT x) (hx : x.size ≤ 1099511627775) : t = x ∧ b = false := by
  obtain ⟨e1, e2, e3⟩ := h.got [c] x [] rfl (by rw [hl]; simp) rfl hx
  exact ⟨e1, e3⟩

theorem of_ne {s : ByteArray} (h : s ≠ ⟨#[]⟩) : 1 ≤ s.size := by
  rcases Nat.eq_zero_or_pos s.size with h1 | h1
  · exact absurd (by
      obtain ⟨⟨l⟩⟩ := s
      have : l.length = 0 := h1
      rw [List.length_eq_zero_iff] at this
      rw [this]) h
  · exact h1

theorem ev_iTextRec : ∀ x, evFn tab [(177, cScanTextS), (57, cRecText)] cTextRec Tryz.f131 (body Tryz.f131) x := by
  rintro ⟨s, hs⟩
  conv => whnf
  refine br2 (fun h1 => ?_) (fun h1 => ?_)
  · conv => whnf
    refine ⟨⟨rfl, rec0, false, rfl, textRec_none fun q e1 e2 => ?_⟩⟩
    have h1' : s = ⟨#[]⟩ := strEq_iff.1 h1
    have h3 : bs s = recB q := bs_recT e1 e2
    rw [h1'] at h3
    have := recB_ne q
    rw [← h3] at this
    simp [bs] at this
  have hne : s ≠ ⟨#[]⟩ := strEq_no.1 h1
  have hpos := of_ne hne
  conv => whnf
  refine ⟨?_, ?_⟩
  · show s.size ≤ 4294967296; omega
  conv => whnf
  refine ⟨by decide, ?_, ?_⟩
  · show (0 : Int) < s.size; omega
  have hF : ∀ q, recOkB q = true → recT q = s → bt s 0 = (if q.kind = 1 then 119 else if q.kind = 2 then 103 else if q.kind = 3 then 115 else 120) := fun q e1 e2 => rec_first e1 e2
  have hlen : (bs s).length ≤ 4294967296 := by rw [bs_len]; omega
  have fin : ∀ (r : RecX) (b : Bool), (∀ q, recOkB q = true → recT q = s → b = false ∧ r = q) → (b = true → TextRecR s rec0 false) ∧ (b = false → (!strEq (recT r) s) = true → TextRecR s rec0 false) ∧ (b = false → (!strEq (recT r) s) = false → TextRecR s r true) := by
    intro r b h
    obtain ⟨e1, e2⟩ := textRec_end hne (fun q h1 h2 => (h q h1 h2).2)
    refine ⟨fun hb => textRec_none fun q h1 h2 => ?_, fun hb hr => e2 (by rwa [Bool.not_eq_true', strEq_no] at hr), fun hb hr => e1 (by rwa [Bool.not_eq_false', strEq_iff] at hr)⟩
    rw [(h q h1 h2).1] at hb; cases hb
  conv => whnf
  refine br2 (fun h2 => ?_) (fun h2 => ?_)
  · have h2' : bt s 0 = 119 := eq_of_beq h2
    conv => whnf
    refine ⟨⟨bs s, 1, false, hlen, by decide, by decide⟩, rfl, ?_⟩
    rintro _ _ ⟨t, a, b, rfl, rfl, hS⟩
    conv => whnf
    refine ⟨⟨bs s, a, b, hlen, hS.lo, hS.hi⟩, rfl, ?_⟩
    rintro _ _ ⟨t', a', b', rfl, rfl, hS'⟩
    obtain ⟨f1, f2, f3⟩ := fin ⟨1, t, t', ⟨#[]⟩, ⟨#[]⟩⟩ b' (fun q e1 e2 => by
      have := hF q e1 e2
      rw [h2'] at this
      obtain ⟨z1, z2, z3, z4⟩ := rec_sizes e1
      rcases rec_shape e1 with ⟨e, e3, e4⟩ | ⟨e, e3, e4⟩ | ⟨e, e3, e4⟩ | ⟨e, e3, e4⟩
      · obtain ⟨y1, y2, y3⟩ := scan2 hS hS' (by rw [← e4]; exact bs_recT e1 e2) z1 z2
        exact ⟨y3, by rw [e3, y1, y2]⟩
      all_goals (rw [e] at this; simp at this))
    conv => whnf
    refine br2 (fun h3 => ?_) (fun h3 => ?_)
    · conv => whnf
      exact ⟨⟨rfl, rec0, false, rfl, f1 h3⟩⟩
    · conv => whnf
      refine ⟨⟨1, t, t', ⟨#[]⟩, ⟨#[]⟩⟩, rfl, ?_⟩
      rintro _ _ ⟨rfl, rfl⟩
      conv => whnf
      refine br2 (fun h4 => ?_) (fun h4 => ?_)
      · conv => whnf
        exact ⟨⟨rfl, rec0, false, rfl, f2 h3 h4⟩⟩
      · conv => whnf
        exact ⟨⟨rfl, _, true, rfl, f3 h3 h4⟩⟩
  have h2' : bt s 0 ≠ 119 := by simpa using h2
  conv => whnf
  refine br2 (fun h3 => ?_) (fun h3 => ?_)
  · have h3' : bt s 0 = 103 := eq_of_beq h3
    conv => whnf
    refine ⟨⟨bs s, 1, false, hlen, by decide, by decide⟩, rfl, ?_⟩
    rintro _ _ ⟨t, a, b, rfl, rfl, hS⟩
    obtain ⟨f1, f2, f3⟩ := fin ⟨2, t, ⟨#[]⟩, ⟨#[]⟩, ⟨#[]⟩⟩ b (fun q e1 e2 => by
      have := hF q e1 e2
      rw [h3'] at this
      obtain ⟨z1, z2, z3, z4⟩ := rec_sizes e1
      rcases rec_shape e1 with ⟨e, e3, e4⟩ | ⟨e, e3, e4⟩ | ⟨e, e3, e4⟩ | ⟨e, e3, e4⟩
      · rw [e] at this; simp at this
      · obtain ⟨y1, y3⟩ := scan1 hS (by rw [← e4]; exact bs_recT e1 e2) z1
        exact ⟨y3, by rw [e3, y1]⟩
      all_goals (rw [e] at this; simp at this))
    conv => whnf
    refine br2 (fun h3 => ?_) (fun h3 => ?_)
    · conv => whnf
      exact ⟨⟨rfl, rec0, false, rfl, f1 h3⟩⟩
    · conv => whnf
      refine ⟨⟨2, t, ⟨#[]⟩, ⟨#[]⟩, ⟨#[]⟩⟩, rfl, ?_⟩
      rintro _ _ ⟨rfl, rfl⟩
      conv => whnf
      refine br2 (fun h4 => ?_) (fun h4 => ?_)
      · conv => whnf
        exact ⟨⟨rfl, rec0, false, rfl, f2 h3 h4⟩⟩
      · conv => whnf
        exact ⟨⟨rfl, _, true, rfl, f3 h3 h4⟩⟩
  have h3' : bt s 0 ≠ 103 := by simpa using h3
  conv => whnf
  refine br2 (fun h4 => ?_) (fun h4 => ?_)
  · have h4' : bt s 0 = 115 := eq_of_beq h4
    conv => whnf
    refine ⟨by decide, ?_, ?_⟩
    · show (0 : Int) < s.size; omega
    conv => whnf
    refine br2 (fun h5 => absurd (eq_of_beq h5 : bt s 0 = 120) (by omega)) (fun h5 => ?_)
    conv => whnf
    refine ⟨⟨bs s, 1, false, hlen, by decide, by decide⟩, rfl, ?_⟩
    rintro _ _ ⟨t, a, b, rfl, rfl, hS⟩
    conv => whnf
    refine ⟨⟨bs s, a, b, hlen, hS.lo, hS.hi⟩, rfl, ?_⟩
    rintro _ _ ⟨t', a', b', rfl, rfl, hS'⟩
    obtain ⟨f1, f2, f3⟩ := fin ⟨3, ⟨#[]⟩, ⟨#[]⟩, t, t'⟩ b' (fun q e1 e2 => by
      have := hF q e1 e2
      rw [h4'] at this
      obtain ⟨z1, z2, z3, z4⟩ := rec_sizes e1
      rcases rec_shape e1 with ⟨e, e3, e4⟩ | ⟨e, e3, e4⟩ | ⟨e, e3, e4⟩ | ⟨e, e3, e4⟩
      · rw [e] at this; simp at this
      · rw [e] at this; simp at this
      · obtain ⟨y1, y2, y3⟩ := scan2 hS hS' (by rw [← e4]; exact bs_recT e1 e2) z3 z4
        exact ⟨y3, by rw [e3, y1, y2]⟩
      · rw [e] at this; simp at this)
    conv => whnf
    refine br2 (fun h3 => ?_) (fun h3 => ?_)
    · conv => whnf
      exact ⟨⟨rfl, rec0, false, rfl, f1 h3⟩⟩
    · conv => whnf
      refine ⟨⟨3, ⟨#[]⟩, ⟨#[]⟩, t, t'⟩, rfl, ?_⟩
      rintro _ _ ⟨rfl, rfl⟩
      conv => whnf
      refine br2 (fun h4 => ?_) (fun h4 => ?_)
      · conv => whnf
        exact ⟨⟨rfl, rec0, false, rfl, f2 h3 h4⟩⟩
      · conv => whnf
        exact ⟨⟨rfl, _, true, rfl, f3 h3 h4⟩⟩
  have h4' : bt s 0 ≠ 115 := by simpa using h4
  conv => whnf
  refine br2 (fun h5 => ?_) (fun h5 => ?_)
  · have h5' : bt s 0 = 120 := eq_of_beq h5
    conv => whnf
    refine ⟨by decide, ?_, ?_⟩
    · show (0 : Int) < s.size; omega
    conv => whnf
    refine br2 (fun h6 => ?_) (fun h6 => absurd (eq_of_beq h5) (by simpa using h6))
    conv => whnf
    refine ⟨⟨bs s, 1, false, hlen, by decide, by decide⟩, rfl, ?_⟩
    rintro _ _ ⟨t, a, b, rfl, rfl, hS⟩
    conv => whnf
    refine ⟨⟨bs s, a, b, hlen, hS.lo, hS.hi⟩, rfl, ?_⟩
    rintro _ _ ⟨t', a', b', rfl, rfl, hS'⟩
    obtain ⟨f1, f2, f3⟩ := fin ⟨4, ⟨#[]⟩, ⟨#[]⟩, t, t'⟩ b' (fun q e1 e2 => by
      have := hF q e1 e2
      rw [h5'] at this
      obtain ⟨z1, z2, z3, z4⟩ := rec_sizes e1
      rcases rec_shape e1 with ⟨e, e3, e4⟩ | ⟨e, e3, e4⟩ | ⟨e, e3, e4⟩ | ⟨e, e3, e4⟩
      · rw [e] at this; simp at this
      · rw [e] at this; simp at this
      · rw [e] at this; simp at this
      · obtain ⟨y1, y2, y3⟩ := scan2 hS hS' (by rw [← e4]; exact bs_recT e1 e2) z3 z4
        exact ⟨y3, by rw [e3, y1, y2]⟩)
    conv => whnf
    refine br2 (fun h3 => ?_) (fun h3 => ?_)
    · conv => whnf
      exact ⟨⟨rfl, rec0, false, rfl, f1 h3⟩⟩
    · conv => whnf
      refine ⟨⟨4, ⟨#[]⟩, ⟨#[]⟩, t, t'⟩, rfl, ?_⟩
      rintro _ _ ⟨rfl, rfl⟩
      conv => whnf
      refine br2 (fun h4 => ?_) (fun h4 => ?_)
      · conv => whnf
        exact ⟨⟨rfl, rec0, false, rfl, f2 h3 h4⟩⟩
      · conv => whnf
        exact ⟨⟨rfl, _, true, rfl, f3 h3 h4⟩⟩
  · have h5' : bt s 0 ≠ 120 := by simpa using h5
    conv => whnf
    refine ⟨rec0, rfl, ?_⟩
    rintro _ _ ⟨rfl, rfl⟩
    conv => whnf
    have hno : TextRecR s rec0 false := textRec_none fun q e1 e2 => by
      have := hF q e1 e2
      rcases recOk_kind e1 with e | e | e | e <;> (rw [e] at this; simp at this; omega)
    refine br2 (fun h6 => ?_) (fun h6 => ?_)
    · conv => whnf
      exact ⟨⟨rfl, rec0, false, rfl, hno⟩⟩
    · exfalso
      have h6' : recT rec0 = s := by
        replace h6 : (!strEq (recT rec0) s) = false := h6
        rwa [Bool.not_eq_false', strEq_iff] at h6
      have : recT rec0 = ⟨#[]⟩ := by unfold recT; rw [if_neg (by simp [recOkB, rec0])]
      exact hne (h6'.symm.trans this)
theorem iTextRec_ok : FnOk Tryz.prog 131 cTextRec := fnOk_of fun x => fn_at tab_ok (SOk.cons scanTextS_ok (SOk.cons iRecText_ok SOk.nil)) mixed (fn := Tryz.f131) (code := body Tryz.f131) ⟨Tryz.func131, rfl, by kernel_rfl, by kernel_rfl, by kernel_rfl, by kernel_rfl⟩ (ev_iTextRec x)

/-- The kind that the first byte tells, of those below k. -/
def KindR (s : ByteArray) (k : Nat) (K : Int) : Prop := ∀ q, recOkB q = true → recT q = s → (q.kind < k → K = q.kind) ∧ ((k : Int) ≤ q.kind → K = 0)
theorem ev_sTextRec : ∀ x, evFn tab [(122, cGetText), (123, cRecText)] cTextRec Tryz.f71 (body Tryz.f71) x := by
  rintro ⟨s, hs⟩
  conv => whnf
  have hF : ∀ q, recOkB q = true → recT q = s → bt s 0 = (if q.kind = 1 then 119 else if q.kind = 2 then 103 else if q.kind = 3 then 115 else 120) := fun q e1 e2 => rec_first e1 e2
  refine ⟨fun m st h => ∃ (k : Nat) (K : Int), 1 ≤ k ∧ k ≤ 5 ∧ m = 5 - k ∧ KindR s k K ∧
      st = [(0, .lf (.string s)), (2, .pt 32 0 0), (4, .pt 64 0 0), (5, .lf (.int .i64 k))] ∧ h = [(64, some (.arr true 5 [[.lf (.int .i64 K), .lf (.string ⟨#[]⟩), .lf (.string ⟨#[]⟩), .lf (.string ⟨#[]⟩), .lf (.string ⟨#[]⟩)]])), (32, some (.arr true 5 [[.lf (.int .i64 0), .lf (.string ⟨#[]⟩), .lf (.string ⟨#[]⟩), .lf (.string ⟨#[]⟩), .lf (.string ⟨#[]⟩)]]))],
    4, [(64, 64), (32, 32)], [(0, .lf (.string s)), (2, .pt 32 0 0), (4, .pt 64 0 0), (5, .lf (.int .i64 1))], [(64, some (.arr true 5 [[.lf (.int .i64 0), .lf (.string ⟨#[]⟩), .lf (.string ⟨#[]⟩), .lf (.string ⟨#[]⟩), .lf (.string ⟨#[]⟩)]])), (32, some (.arr true 5 [[.lf (.int .i64 0), .lf (.string ⟨#[]⟩), .lf (.string ⟨#[]⟩), .lf (.string ⟨#[]⟩), .lf (.string ⟨#[]⟩)]]))],
    ⟨rfl, ⟨rfl, rfl, rfl, rfl, trivial⟩, ⟨rfl, rfl, trivial⟩⟩, ⟨1, 0, by omega, by omega, rfl, fun q e1 e2 => ?_, rfl, rfl⟩, ?_⟩
  · rcases recOk_kind e1 with e | e | e | e <;> rw [e] <;> simp
  rintro m _ _ ⟨k, K, hk1, hk2, rfl, hK, rfl, rfl⟩
  conv => whnf
  refine br2 (fun h1 => ?_) (fun h1 => ?_)
  · have h1' : k ≤ 4 := by have := of_decide_eq_true h1; omega
    have hcode : ∀ q, recOkB q = true → recT q = s → (bt s 0 = bt ⟨#[32, 119, 103, 115, 120]⟩ k ↔ q.kind = k) := by
      intro q e1 e2
      rw [hF q e1 e2]
      rcases (show k = 1 ∨ k = 2 ∨ k = 3 ∨ k = 4 by omega) with rfl | rfl | rfl | rfl <;> rcases recOk_kind e1 with e | e | e | e <;> rw [e] <;> decide
    have hnext : ∀ q, recOkB q = true → recT q = s → s ≠ ⟨#[]⟩ := fun q e1 e2 e3 => by
      have h3 : bs s = recB q := bs_recT e1 e2
      have := recB_ne q
      rw [← h3, e3] at this
      simp [bs] at this
    have hw : IntKind.i64.wrap ((k : Int) + 1) = ((k + 1 : Nat) : Int) := by rw [w64 (by omega) (by omega)]; rfl
    have step0 : (∀ q, recOkB q = true → recT q = s → q.kind ≠ k) → KindR s (k + 1) K := fun hne q e1 e2 => by
      have := hne q e1 e2
      obtain ⟨a1, a2⟩ := hK q e1 e2
      exact ⟨fun h => a1 (by omega), fun h => a2 (by omega)⟩
    have step1 : (bt s 0 = bt ⟨#[32, 119, 103, 115, 120]⟩ k) → KindR s (k + 1) k := fun hb q e1 e2 => by
      have := (hcode q e1 e2).1 hb
      exact ⟨fun _ => this.symm, fun h => by omega⟩
    conv => whnf
    refine br2 (fun h2 => ?_) (fun h2 => ?_)
    · have hne : s ≠ ⟨#[]⟩ := by rwa [Bool.not_eq_true', strEq_no] at h2
      have := of_ne hne
      conv => whnf
      refine ⟨by decide, ?_, ?_⟩
      · show (0 : Int) < s.size; omega
      conv => whnf
      refine ⟨by omega, ?_, ?_⟩
      · show (k : Int) < 5; omega
      conv => whnf
      refine br2 (fun h3 => ?_) (fun h3 => ?_)
      · conv => whnf
        refine ⟨5 - (k + 1), [(64, 64), (32, 32)], [(0, .lf (.string s)), (2, .pt 32 0 0), (4, .pt 64 0 0), (5, .lf (.int .i64 ((k + 1 : Nat) : Int)))], [(64, some (.arr true 5 [[.lf (.int .i64 k), .lf (.string ⟨#[]⟩), .lf (.string ⟨#[]⟩), .lf (.string ⟨#[]⟩), .lf (.string ⟨#[]⟩)]])), (32, some (.arr true 5 [[.lf (.int .i64 0), .lf (.string ⟨#[]⟩), .lf (.string ⟨#[]⟩), .lf (.string ⟨#[]⟩), .lf (.string ⟨#[]⟩)]]))], by omega, ⟨rfl, ⟨rfl, rfl, rfl, ?_, trivial⟩, ⟨rfl, rfl, trivial⟩⟩, k + 1, k, by omega, by omega, rfl, step1 (eq_of_beq h3), rfl, rfl⟩
        show V.lf (.int .i64 (IntKind.i64.wrap ((k : Int) + 1))) = _
        rw [hw]
      · conv => whnf
        refine ⟨5 - (k + 1), [(64, 64), (32, 32)], [(0, .lf (.string s)), (2, .pt 32 0 0), (4, .pt 64 0 0), (5, .lf (.int .i64 ((k + 1 : Nat) : Int)))], [(64, some (.arr true 5 [[.lf (.int .i64 K), .lf (.string ⟨#[]⟩), .lf (.string ⟨#[]⟩), .lf (.string ⟨#[]⟩), .lf (.string ⟨#[]⟩)]])), (32, some (.arr true 5 [[.lf (.int .i64 0), .lf (.string ⟨#[]⟩), .lf (.string ⟨#[]⟩), .lf (.string ⟨#[]⟩), .lf (.string ⟨#[]⟩)]]))], by omega, ⟨rfl, ⟨rfl, rfl, rfl, ?_, trivial⟩, ⟨rfl, rfl, trivial⟩⟩, k + 1, K, by omega, by omega, rfl, step0 (fun q e1 e2 e3 => ?_), rfl, rfl⟩
        · show V.lf (.int .i64 (IntKind.i64.wrap ((k : Int) + 1))) = _
          rw [hw]
        · have := (hcode q e1 e2).2 e3
          have h3' : ¬ bt s 0 = bt ⟨#[32, 119, 103, 115, 120]⟩ k := fun e => by
            replace h3 : (bt s 0 == bt ⟨#[32, 119, 103, 115, 120]⟩ k) = false := h3
            rw [e] at h3; simp at h3
          exact h3' this
    · conv => whnf
      refine ⟨5 - (k + 1), [(64, 64), (32, 32)], [(0, .lf (.string s)), (2, .pt 32 0 0), (4, .pt 64 0 0), (5, .lf (.int .i64 ((k + 1 : Nat) : Int)))], [(64, some (.arr true 5 [[.lf (.int .i64 K), .lf (.string ⟨#[]⟩), .lf (.string ⟨#[]⟩), .lf (.string ⟨#[]⟩), .lf (.string ⟨#[]⟩)]])), (32, some (.arr true 5 [[.lf (.int .i64 0), .lf (.string ⟨#[]⟩), .lf (.string ⟨#[]⟩), .lf (.string ⟨#[]⟩), .lf (.string ⟨#[]⟩)]]))], by omega, ⟨rfl, ⟨rfl, rfl, rfl, ?_, trivial⟩, ⟨rfl, rfl, trivial⟩⟩, k + 1, K, by omega, by omega, rfl, step0 (fun q e1 e2 e3 => ?_), rfl, rfl⟩
      · show V.lf (.int .i64 (IntKind.i64.wrap ((k : Int) + 1))) = _
        rw [hw]
      · have h2' : s = ⟨#[]⟩ := by rwa [Bool.not_eq_false', strEq_iff] at h2
        exact hnext q e1 e2 h2'
  · have h1' : k = 5 := by have := of_decide_eq_false h1; omega
    subst h1'
    have hK' : ∀ q, recOkB q = true → recT q = s → K = q.kind := fun q e1 e2 => (hK q e1 e2).1 (by rcases recOk_kind e1 with e | e | e | e <;> rw [e] <;> decide)
    have hlen : (bs s).length ≤ 4294967296 := by rw [bs_len]; omega
    conv => whnf
    refine ⟨?_, ?_⟩
    · show s.size ≤ 4294967296; omega
    conv => whnf
    refine ⟨⟨bs s, 1, hlen, by decide, by decide⟩, rfl, ?_⟩
    rintro _ _ ⟨rfl, t, a, rfl, hG⟩
    have hG0 : a = -1 ∧ t = ⟨#[]⟩ ∨ (0 : Int) ≤ 1 ∧ 1 < a ∧ a ≤ (bs s).length ∧ t.size ≤ (bs s).length := hG.1
    conv => whnf
    refine ⟨?_, ?_⟩
    · show s.size ≤ 4294967296; omega
    conv => whnf
    refine ⟨⟨bs s, a, hlen, by omega, by omega⟩, rfl, ?_⟩
    rintro _ _ ⟨rfl, t', a', rfl, hG'⟩
    have two : ∀ (c : UInt8) (x y : ByteArray), bs s = [c] ++ encT x ++ encT y → x.size ≤ 1099511627775 → y.size ≤ 1099511627775 → t = x ∧ t' = y := by
      intro c x y e1 e2 e3
      obtain ⟨y1, y2⟩ := hG.2 [c] x (encT y) e1 rfl e2
      obtain ⟨y3, y4⟩ := hG'.2 ([c] ++ encT x) y [] (by show bs s = _; rw [e1]; simp) (by show a = _; rw [y2]; simp; omega) e3
      exact ⟨y1, y3⟩
    have one : ∀ (c : UInt8) (x : ByteArray), bs s = [c] ++ encT x → x.size ≤ 1099511627775 → t = x := by
      intro c x e1 e2
      exact (hG.2 [c] x [] (by show bs s = _; rw [e1]; simp) rfl e2).1
    have hend : ∀ r : RecX, (∀ q, recOkB q = true → recT q = s → r = q) → (strEq s ⟨#[]⟩ = true → TextRecR s rec0 false) ∧ (strEq s ⟨#[]⟩ = false → (!strEq (recT r) s) = true → TextRecR s rec0 false) ∧ (strEq s ⟨#[]⟩ = false → (!strEq (recT r) s) = false → TextRecR s r true) := by
      intro r h
      refine ⟨fun he => textRec_none fun q e1 e2 => ?_, fun he hr => (textRec_end (strEq_no.1 he) h).2 (by rwa [Bool.not_eq_true', strEq_no] at hr), fun he hr => (textRec_end (strEq_no.1 he) h).1 (by rwa [Bool.not_eq_false', strEq_iff] at hr)⟩
      have h3 : bs s = recB q := bs_recT e1 e2
      have := recB_ne q
      rw [← h3, strEq_iff.1 he] at this
      simp [bs] at this
    conv => whnf
    refine br2 (fun h2 => ?_) (fun h2 => ?_)
    · have h2' := of_decide_eq_true h2
      obtain ⟨f1, f2, f3⟩ := hend ⟨K, ⟨#[]⟩, ⟨#[]⟩, t, t'⟩ (fun q e1 e2 => by
        have hk := hK' q e1 e2
        obtain ⟨z1, z2, z3, z4⟩ := rec_sizes e1
        rcases rec_shape e1 with ⟨e, e3, e4⟩ | ⟨e, e3, e4⟩ | ⟨e, e3, e4⟩ | ⟨e, e3, e4⟩
        · omega
        · omega
        · obtain ⟨y1, y2⟩ := two _ _ _ (by rw [← e4]; exact bs_recT e1 e2) z3 z4
          rw [e3, y1, y2, hk, e]
        · obtain ⟨y1, y2⟩ := two _ _ _ (by rw [← e4]; exact bs_recT e1 e2) z3 z4
          rw [e3, y1, y2, hk, e])
      conv => whnf
      refine br2 (fun h3 => ?_) (fun h3 => ?_)
      · conv => whnf
        exact ⟨⟨rfl, rec0, false, rfl, f1 h3⟩⟩
      · conv => whnf
        refine ⟨⟨K, ⟨#[]⟩, ⟨#[]⟩, t, t'⟩, rfl, ?_⟩
        rintro _ _ ⟨rfl, rfl⟩
        conv => whnf
        refine br2 (fun h4 => ?_) (fun h4 => ?_)
        · conv => whnf
          exact ⟨⟨rfl, rec0, false, rfl, f2 h3 h4⟩⟩
        · conv => whnf
          exact ⟨⟨rfl, _, true, rfl, f3 h3 h4⟩⟩
    · have h2' := of_decide_eq_false h2
      conv => whnf
      refine br2 (fun h5 => ?_) (fun h5 => ?_)
      · have h5' : K = 1 := eq_of_beq h5
        obtain ⟨f1, f2, f3⟩ := hend ⟨K, t, t', ⟨#[]⟩, ⟨#[]⟩⟩ (fun q e1 e2 => by
          have hk := hK' q e1 e2
          obtain ⟨z1, z2, z3, z4⟩ := rec_sizes e1
          rcases rec_shape e1 with ⟨e, e3, e4⟩ | ⟨e, e3, e4⟩ | ⟨e, e3, e4⟩ | ⟨e, e3, e4⟩
          · obtain ⟨y1, y2⟩ := two _ _ _ (by rw [← e4]; exact bs_recT e1 e2) z1 z2
            rw [e3, y1, y2, hk, e]
          all_goals omega)
        conv => whnf
        refine br2 (fun h3 => ?_) (fun h3 => ?_)
        · conv => whnf
          exact ⟨⟨rfl, rec0, false, rfl, f1 h3⟩⟩
        · conv => whnf
          refine ⟨⟨K, t, t', ⟨#[]⟩, ⟨#[]⟩⟩, rfl, ?_⟩
          rintro _ _ ⟨rfl, rfl⟩
          conv => whnf
          refine br2 (fun h4 => ?_) (fun h4 => ?_)
          · conv => whnf
            exact ⟨⟨rfl, rec0, false, rfl, f2 h3 h4⟩⟩
          · conv => whnf
            exact ⟨⟨rfl, _, true, rfl, f3 h3 h4⟩⟩
      · have h5' : K ≠ 1 := by intro e; rw [e] at h5; simp at h5
        obtain ⟨f1, f2, f3⟩ := hend ⟨K, t, ⟨#[]⟩, ⟨#[]⟩, ⟨#[]⟩⟩ (fun q e1 e2 => by
          have hk := hK' q e1 e2
          obtain ⟨z1, z2, z3, z4⟩ := rec_sizes e1
          rcases rec_shape e1 with ⟨e, e3, e4⟩ | ⟨e, e3, e4⟩ | ⟨e, e3, e4⟩ | ⟨e, e3, e4⟩
          · omega
          · have y1 := one _ _ (by rw [← e4]; exact bs_recT e1 e2) z1
            rw [e3, y1, hk, e]
          all_goals omega)
        conv => whnf
        refine br2 (fun h3 => ?_) (fun h3 => ?_)
        · conv => whnf
          exact ⟨⟨rfl, rec0, false, rfl, f1 h3⟩⟩
        · conv => whnf
          refine ⟨⟨K, t, ⟨#[]⟩, ⟨#[]⟩, ⟨#[]⟩⟩, rfl, ?_⟩
          rintro _ _ ⟨rfl, rfl⟩
          conv => whnf
          refine br2 (fun h4 => ?_) (fun h4 => ?_)
          · conv => whnf
            exact ⟨⟨rfl, rec0, false, rfl, f2 h3 h4⟩⟩
          · conv => whnf
            exact ⟨⟨rfl, _, true, rfl, f3 h3 h4⟩⟩
theorem sTextRec_ok : FnOk Tryz.prog 71 cTextRec := fnOk_of fun x => fn_at tab_ok (SOk.cons sGetText_ok (SOk.cons sRecText_ok SOk.nil)) mixed (fn := Tryz.f71) (code := body Tryz.f71) ⟨Tryz.func71, rfl, by kernel_rfl, by kernel_rfl, by kernel_rfl, by kernel_rfl⟩ (ev_sTextRec x)
end Go.Vm
namespace Go.Vm
set_option linter.unusedVariables false
set_option linter.unusedSimpArgs false

theorem u8_lt2 {a b : UInt8} : a < b ↔ a.toNat < b.toNat := UInt8.lt_iff_toNat_lt
theorem bl_irr : ∀ a : List UInt8, Op.bytesLess a a = false
  | [] => rfl
  | a :: x => by
    simp only [Op.bytesLess]
    have h : ¬ a < a := fun e => by have := u8_lt2.1 e; omega
    simp [h, bl_irr x]
theorem bl_trans : ∀ a b c : List UInt8, Op.bytesLess a b = true → Op.bytesLess b c = true → Op.bytesLess a c = true
  | [], [], c, h, _ => by simp [Op.bytesLess] at h
  | [], _ :: _, [], _, h => by simp [Op.bytesLess] at h
  | [], _ :: _, _ :: _, _, _ => by simp [Op.bytesLess]
  | _ :: _, [], _, h, _ => by simp [Op.bytesLess] at h
  | _ :: _, _ :: _, [], _, h => by simp [Op.bytesLess] at h
  | a :: x, b :: y, c :: z, h, h' => by
    have ih := bl_trans x y z
    simp only [Op.bytesLess, Bool.or_eq_true, Bool.and_eq_true, decide_eq_true_eq, beq_iff_eq] at h h' ⊢
    rcases h with h | ⟨h, g⟩ <;> rcases h' with h' | ⟨h', g'⟩
    · left; rw [u8_lt2] at *; omega
    · subst h'; exact .inl h
    · subst h; exact .inl h'
    · subst h; subst h'; exact .inr ⟨rfl, ih g g'⟩
theorem strLt_trans {a b c : ByteArray} (h : strLt a b = true) (h' : strLt b c = true) : strLt a c = true := bl_trans _ _ _ h h'
theorem strLt_irrefl (a : ByteArray) : strLt a a = false := bl_irr _
theorem strLt_tri {a b : ByteArray} (h : strLt a b = false) (h' : strLt b a = false) : a = b := by
  have := strLt_flip a b
  rw [h', h] at this
  simp at this
  exact strEq_iff.1 this
/-- A node with what is below it; a leaf has no kids. -/
inductive Tw where
  | mk (ps : List RngX) (ks : List Tw)
def Tw.ps : Tw → List RngX
  | .mk ps _ => ps
def Tw.ks : Tw → List Tw
  | .mk _ ks => ks
structure NodeX where
  ps : List RngX
  keys : List ByteArray
  kids : List Int
mutual
def Tw.all : Tw → List RngX
  | .mk ps ks => Tw.alls ks ++ ps
def Tw.alls : List Tw → List RngX
  | [] => []
  | k :: ks => k.all ++ Tw.alls ks
end
mutual
def Tw.size : Tw → Nat
  | .mk _ ks => 1 + Tw.sizes ks
def Tw.sizes : List Tw → Nat
  | [] => 0
  | k :: ks => k.size + Tw.sizes ks
end
mutual
def Tw.deep : Tw → Nat
  | .mk _ ks => 1 + Tw.deeps ks
def Tw.deeps : List Tw → Nat
  | [] => 0
  | k :: ks => max k.deep (Tw.deeps ks)
end
def headKey : List RngX → ByteArray
  | [] => ⟨#[]⟩
  | p :: _ => p.lo
mutual
def Tw.least : Tw → ByteArray
  | .mk ps ks => Tw.leasts ps ks
def Tw.leasts : List RngX → List Tw → ByteArray
  | ps, [] => headKey ps
  | _, k :: _ => k.least
end
def kidsAt : List Tw → Nat → List Int
  | [], _ => []
  | k :: ks, a => (a : Int) :: kidsAt ks (a + k.size)
mutual
def Tw.lay : Tw → Nat → List NodeX
  | .mk ps ks, a => ⟨ps, (ks.drop 1).map Tw.least, kidsAt ks (a + 1)⟩ :: Tw.lays ks (a + 1)
def Tw.lays : List Tw → Nat → List NodeX
  | [], _ => []
  | k :: ks, a => k.lay a ++ Tw.lays ks (a + k.size)
end
theorem Tw.alls_app (a b : List Tw) : Tw.alls (a ++ b) = Tw.alls a ++ Tw.alls b := by
  induction a with
  | nil => rfl
  | cons k a ih => simp [Tw.alls, ih]
theorem Tw.sizes_app (a b : List Tw) : Tw.sizes (a ++ b) = Tw.sizes a + Tw.sizes b := by
  induction a with
  | nil => simp [Tw.sizes]
  | cons k a ih => simp [Tw.sizes, ih]; omega
theorem Tw.lays_app (a b : List Tw) (i : Nat) : Tw.lays (a ++ b) i = Tw.lays a i ++ Tw.lays b (i + Tw.sizes a) := by
  induction a generalizing i with
  | nil => simp [Tw.lays, Tw.sizes]
  | cons k a ih => simp [Tw.lays, Tw.sizes, ih, Nat.add_assoc]
theorem kidsAt_app (a b : List Tw) (i : Nat) : kidsAt (a ++ b) i = kidsAt a i ++ kidsAt b (i + Tw.sizes a) := by
  induction a generalizing i with
  | nil => simp [kidsAt, Tw.sizes]
  | cons k a ih => simp [kidsAt, Tw.sizes, ih, Nat.add_assoc]
theorem Tw.size_pos (x : Tw) : 1 ≤ x.size := by cases x; simp [Tw.size]
theorem Tw.deep_pos (x : Tw) : 1 ≤ x.deep := by cases x; simp [Tw.deep]
mutual
theorem Tw.lay_len : ∀ (x : Tw) (a : Nat), (x.lay a).length = x.size
  | .mk ps ks, a => by simp only [Tw.lay, Tw.size, List.length_cons, Tw.lays_len ks (a + 1)]; omega
theorem Tw.lays_len : ∀ (ks : List Tw) (a : Nat), (Tw.lays ks a).length = Tw.sizes ks
  | [], a => rfl
  | k :: ks, a => by simp only [Tw.lays, Tw.sizes, List.length_append, Tw.lay_len k a, Tw.lays_len ks]
end
theorem kidsAt_len (ks : List Tw) (a : Nat) : (kidsAt ks a).length = ks.length := by
  induction ks generalizing a with
  | nil => rfl
  | cons k ks ih => simp [kidsAt, ih]
theorem kidsAt_get : ∀ (ks : List Tw) (a i : Nat), i < ks.length → (kidsAt ks a)[i]? = some ((a + Tw.sizes (ks.take i) : Nat) : Int)
  | [], a, i, h => by simp at h
  | k :: ks, a, 0, h => by simp [kidsAt, Tw.sizes]
  | k :: ks, a, i + 1, h => by
    simp only [kidsAt, List.getElem?_cons_succ, List.take_succ_cons, Tw.sizes]
    rw [kidsAt_get ks (a + k.size) i (by simpa using h), Nat.add_assoc]

/-! Nodes at a place: with the keys told between, or not -/
mutual
def Fit (kk : Bool) (N : List NodeX) : Nat → Tw → Prop
  | a, .mk ps ks => (∃ n, N[a]? = some n ∧ n.ps = ps ∧ n.kids = kidsAt ks (a + 1) ∧ (kk = true → n.keys = (ks.drop 1).map Tw.least)) ∧ FitK kk N (a + 1) ks
def FitK (kk : Bool) (N : List NodeX) : Nat → List Tw → Prop
  | _, [] => True
  | a, k :: ks => Fit kk N a k ∧ FitK kk N (a + k.size) ks
end
section
variable {kk : Bool} {N : List NodeX}
theorem fitK_app : ∀ {l m : List Tw} {a : Nat}, FitK kk N a (l ++ m) ↔ FitK kk N a l ∧ FitK kk N (a + Tw.sizes l) m
  | [], m, a => by simp [FitK, Tw.sizes]
  | k :: l, m, a => by
    simp only [List.cons_append, FitK, Tw.sizes]
    rw [fitK_app, Nat.add_assoc, and_assoc]
theorem fitK_one {a : Nat} {k : Tw} : FitK kk N a [k] ↔ Fit kk N a k := by simp [FitK]
mutual
theorem Fit.uniq : ∀ (x y : Tw) (a : Nat), Fit kk N a x → Fit kk N a y → x = y
  | .mk ps ks, .mk qs js, a, h, h' => by
    simp only [Fit] at h h'
    obtain ⟨⟨n, e1, e2, e3, _⟩, h2⟩ := h
    obtain ⟨⟨n', e1', e2', e3', _⟩, h2'⟩ := h'
    rw [e1] at e1'; cases e1'
    have hl : ks.length = js.length := by
      have := congrArg List.length (e3.symm.trans e3')
      rwa [kidsAt_len, kidsAt_len] at this
    rw [← e2, ← e2', FitK.uniq ks js (a + 1) hl h2 h2']
theorem FitK.uniq : ∀ (ks js : List Tw) (a : Nat), ks.length = js.length → FitK kk N a ks → FitK kk N a js → ks = js
  | [], [], _, _, _, _ => rfl
  | [], _ :: _, _, h, _, _ => by simp at h
  | _ :: _, [], _, h, _, _ => by simp at h
  | k :: ks, j :: js, a, hl, h, h' => by
    simp only [FitK] at h h'
    have e := Fit.uniq k j a h.1 h'.1
    subst e
    rw [FitK.uniq ks js (a + k.size) (by simpa using hl) h.2 h'.2]
end
theorem FitK.get {ks : List Tw} {a i : Nat} {k : Tw} (h : FitK kk N a ks) (hk : ks[i]? = some k) : Fit kk N (a + Tw.sizes (ks.take i)) k := by
  have hi := (List.getElem?_eq_some_iff.1 hk).1
  have e : ks = ks.take i ++ (k :: ks.drop (i + 1)) := by
    have h1 := List.drop_eq_getElem_cons hi
    have h2 : ks[i] = k := (List.getElem?_eq_some_iff.1 hk).2
    rw [h2] at h1
    rw [← h1, List.take_append_drop]
  rw [e, fitK_app] at h
  have := h.2
  simp only [FitK] at this
  exact this.1
theorem FitK.take {ks : List Tw} {a i : Nat} (h : FitK kk N a ks) : FitK kk N a (ks.take i) := by
  rw [← List.take_append_drop i ks, fitK_app] at h
  exact h.1
/-- What is read so far stands in front of what fits. -/
theorem FitK.front {l ks : List Tw} {a : Nat} (h : FitK kk N a l) (h' : FitK kk N a ks) (hl : l.length ≤ ks.length) : l = ks.take l.length :=
  FitK.uniq l _ a (by simp; omega) h h'.take
mutual
theorem Fit.le : ∀ (x : Tw) (a : Nat), Fit kk N a x → a + x.size ≤ N.length
  | .mk ps ks, a, h => by
    simp only [Fit] at h
    obtain ⟨⟨n, e1, _⟩, h2⟩ := h
    have := FitK.le ks (a + 1) h2 (by have := (List.getElem?_eq_some_iff.1 e1).1; omega)
    simp only [Tw.size]; omega
theorem FitK.le : ∀ (ks : List Tw) (a : Nat), FitK kk N a ks → a ≤ N.length → a + Tw.sizes ks ≤ N.length
  | [], a, _, h => by simpa [Tw.sizes] using h
  | k :: ks, a, h, h0 => by
    simp only [FitK] at h
    have h1 := Fit.le k a h.1
    have := FitK.le ks (a + k.size) h.2 h1
    simp only [Tw.sizes]; omega
end
mutual
theorem Fit.lay : ∀ (x : Tw) (a : Nat), Fit true N a x → (N.drop a).take x.size = x.lay a
  | .mk ps ks, a, h => by
    simp only [Fit] at h
    obtain ⟨⟨n, e1, e2, e3, e4⟩, h2⟩ := h
    have hi := (List.getElem?_eq_some_iff.1 e1).1
    have hn : N[a] = n := (List.getElem?_eq_some_iff.1 e1).2
    rw [List.drop_eq_getElem_cons hi, hn]
    simp only [Tw.size, Tw.lay]
    rw [Nat.add_comm 1, List.take_succ_cons, FitK.lay ks (a + 1) h2]
    congr 1
    cases n
    simp_all
theorem FitK.lay : ∀ (ks : List Tw) (a : Nat), FitK true N a ks → (N.drop a).take (Tw.sizes ks) = Tw.lays ks a
  | [], a, _ => by simp [Tw.sizes, Tw.lays]
  | k :: ks, a, h => by
    simp only [FitK] at h
    simp only [Tw.sizes, Tw.lays]
    rw [List.take_add, Fit.lay k a h.1, List.drop_drop, FitK.lay ks (a + k.size) h.2]
end
mutual
theorem Tw.lay_fit : ∀ (x : Tw) (a : Nat) (A B : List NodeX), A.length = a → Fit kk (A ++ x.lay a ++ B) a x
  | .mk ps ks, a, A, B, h => by
    simp only [Fit, Tw.lay]
    refine ⟨⟨⟨ps, (ks.drop 1).map Tw.least, kidsAt ks (a + 1)⟩, ?_, rfl, rfl, fun _ => rfl⟩, ?_⟩
    · rw [List.append_assoc, List.getElem?_append_right (by omega), h]; simp
    · have := Tw.lays_fit ks (a + 1) (A ++ [⟨ps, (ks.drop 1).map Tw.least, kidsAt ks (a + 1)⟩]) B (by simp [h])
      simpa using this
theorem Tw.lays_fit : ∀ (ks : List Tw) (a : Nat) (A B : List NodeX), A.length = a → FitK kk (A ++ Tw.lays ks a ++ B) a ks
  | [], a, A, B, h => trivial
  | k :: ks, a, A, B, h => by
    simp only [FitK, Tw.lays]
    constructor
    · have := Tw.lay_fit k a A (Tw.lays ks (a + k.size) ++ B) h
      simpa using this
    · have := Tw.lays_fit ks (a + k.size) (A ++ k.lay a) B (by simp [h, Tw.lay_len])
      simpa using this
end
end
theorem fit_all {N : List NodeX} {x : Tw} : Fit true N 0 x ∧ x.size = N.length ↔ N = x.lay 0 := by
  constructor
  · rintro ⟨h, e⟩
    have := h.lay
    rw [e] at this
    simpa using this
  · rintro rfl
    refine ⟨?_, (Tw.lay_len x 0).symm⟩
    have := Tw.lay_fit (kk := true) x 0 [] [] rfl
    simpa using this
mutual
theorem Fit.noK {N : List NodeX} : ∀ (x : Tw) (a : Nat), Fit true N a x → Fit false N a x
  | .mk ps ks, a, h => by
    simp only [Fit] at h ⊢
    obtain ⟨⟨n, e1, e2, e3, e4⟩, h2⟩ := h
    exact ⟨⟨n, e1, e2, e3, fun h => by cases h⟩, FitK.noK ks _ h2⟩
theorem FitK.noK {N : List NodeX} : ∀ (ks : List Tw) (a : Nat), FitK true N a ks → FitK false N a ks
  | [], _, _ => trivial
  | k :: ks, a, h => by
    simp only [FitK] at h ⊢
    exact ⟨Fit.noK k a h.1, FitK.noK ks _ h.2⟩
end

/-! How many a node has: d is how far the leaves are. -/
inductive Shp : Bool → Nat → Tw → Prop
  | leaf {root : Bool} {ps : List RngX} (h1 : (if root then 1 else 2) ≤ ps.length) (h2 : ps.length ≤ 4) : Shp root 1 (.mk ps [])
  | node {root : Bool} {d : Nat} {ks : List Tw} (h1 : 2 ≤ ks.length) (h2 : ks.length ≤ 4) (h3 : ∀ k, k ∈ ks → Shp false d k) : Shp root (d + 1) (.mk [] ks)
theorem Shp.pos {b : Bool} {d : Nat} {x : Tw} (h : Shp b d x) : 1 ≤ d := by cases h <;> omega
mutual
theorem Shp.deep : ∀ {b : Bool} {d : Nat} (x : Tw), Shp b d x → x.deep = d
  | b, d, .mk ps ks, h => by
    cases h with
    | leaf h1 h2 => simp [Tw.deep, Tw.deeps]
    | node h1 h2 h3 =>
      rename_i d
      have := Shp.deeps ks h3 (by intro e; subst e; simp at h1)
      simp [Tw.deep, this]; omega
theorem Shp.deeps : ∀ {d : Nat} (ks : List Tw), (∀ k, k ∈ ks → Shp false d k) → ks ≠ [] → Tw.deeps ks = d
  | d, [], h, hne => absurd rfl hne
  | d, [k], h, _ => by simp [Tw.deeps, Shp.deep k (h k (by simp))]
  | d, k :: k2 :: ks, h, _ => by
    have h1 := Shp.deep k (h k (by simp))
    have h2 := Shp.deeps (k2 :: ks) (fun q hq => h q (by simp [hq])) (by simp)
    rw [Tw.deeps, h1, h2]; simp
end
/-! How many pairs there are at least, and how many nodes at most. -/
mutual
theorem Shp.many : ∀ {d : Nat} (x : Tw), Shp false d x → 2 ^ d ≤ x.all.length ∧ x.size + 1 ≤ x.all.length ∧ x.all.length ≤ 4 ^ d
  | d, .mk ps ks, h => by
    cases h with
    | leaf h1 h2 => simp at h1; simp [Tw.all, Tw.alls, Tw.size, Tw.sizes]; omega
    | node h1 h2 h3 =>
      rename_i d
      obtain ⟨a, b, c⟩ := Shp.manys ks h3
      simp only [Tw.all, List.append_nil, Tw.size]
      have h4 : 2 * 2 ^ d ≤ ks.length * 2 ^ d := Nat.mul_le_mul_right _ h1
      have h5 : ks.length * 4 ^ d ≤ 4 * 4 ^ d := Nat.mul_le_mul_right _ h2
      rw [Nat.pow_succ, Nat.pow_succ]
      omega
theorem Shp.manys : ∀ {d : Nat} (ks : List Tw), (∀ k, k ∈ ks → Shp false d k) → ks.length * 2 ^ d ≤ (Tw.alls ks).length ∧ Tw.sizes ks + ks.length ≤ (Tw.alls ks).length ∧ (Tw.alls ks).length ≤ ks.length * 4 ^ d
  | d, [], h => by simp [Tw.alls, Tw.sizes]
  | d, k :: ks, h => by
    obtain ⟨a, b, c⟩ := Shp.many k (h k (by simp))
    obtain ⟨a', b', c'⟩ := Shp.manys ks (fun q hq => h q (by simp [hq]))
    simp only [Tw.alls, Tw.sizes, List.length_append, List.length_cons, Nat.succ_mul]
    omega
end
theorem Shp.manyR {b : Bool} {d : Nat} {x : Tw} (h : Shp b d x) : 1 ≤ x.all.length ∧ (2 ≤ d → 2 ^ d ≤ x.all.length) ∧ x.size ≤ x.all.length ∧ x.all.length ≤ 4 ^ d := by
  cases h with
  | leaf h1 h2 =>
    have h3 := h1
    simp [Tw.all, Tw.alls, Tw.size, Tw.sizes]
    split at h3 <;> omega
  | node h1 h2 h3 =>
    have hn : Shp false _ _ := .node h1 h2 h3
    obtain ⟨a, b, c⟩ := hn.many
    exact ⟨by omega, fun _ => a, by omega, c⟩
theorem Shp.deep_le {b : Bool} {d : Nat} {x : Tw} (h : Shp b d x) (hl : x.all.length ≤ 200) : d ≤ 7 := by
  obtain ⟨_, h1, _⟩ := h.manyR
  rcases Nat.lt_or_ge d 8 with h2 | h2
  · omega
  · have h3 := h1 (by omega)
    have : 2 ^ 8 ≤ 2 ^ d := Nat.pow_le_pow_right (by omega) h2
    omega

/-! How many each node has; that all leaves are as far. -/
mutual
def Tw.full : Bool → Tw → Bool
  | root, .mk ps ks => match ks with
    | [] => decide (ps.length ≤ 4) && (decide (2 ≤ ps.length) || root && decide (ps.length = 1))
    | k :: ks => decide (2 ≤ (k :: ks).length) && decide ((k :: ks).length ≤ 4) && decide (ps.length = 0) && (Tw.full false k && Tw.fulls ks)
def Tw.fulls : List Tw → Bool
  | [] => true
  | k :: ks => Tw.full false k && Tw.fulls ks
end
inductive Lev : Nat → Tw → Prop
  | leaf {ps : List RngX} : Lev 1 (.mk ps [])
  | node {d : Nat} {ps : List RngX} {ks : List Tw} (h1 : ks ≠ []) (h3 : ∀ k, k ∈ ks → Lev d k) : Lev (d + 1) (.mk ps ks)
theorem fulls_iff {ks : List Tw} : Tw.fulls ks = true ↔ ∀ k ∈ ks, Tw.full false k = true := by
  induction ks with
  | nil => simp [Tw.fulls]
  | cons k ks ih => simp [Tw.fulls, ih]
theorem full_node {root : Bool} {ps : List RngX} {ks : List Tw} (h : ks ≠ []) : Tw.full root (.mk ps ks) = (decide (2 ≤ ks.length) && decide (ks.length ≤ 4) && decide (ps.length = 0) && Tw.fulls ks) := by
  cases ks with
  | nil => exact absurd rfl h
  | cons k ks => simp [Tw.full, Tw.fulls]
theorem full_leaf {root : Bool} {ps : List RngX} : Tw.full root (.mk ps []) = (decide (ps.length ≤ 4) && (decide (2 ≤ ps.length) || root && decide (ps.length = 1))) := by simp [Tw.full]
theorem Shp.of_full : ∀ {d : Nat} {x : Tw}, Lev d x → ∀ {b : Bool}, Tw.full b x = true → Shp b d x := by
  intro d x h
  induction h with
  | leaf =>
    intro b hf
    simp only [full_leaf, Bool.and_eq_true, decide_eq_true_eq, Bool.or_eq_true] at hf
    exact .leaf (by cases b <;> simp at hf ⊢ <;> omega) hf.1
  | node h1 h3 ih =>
    intro b hf
    rename_i d ps ks
    simp only [full_node h1, Bool.and_eq_true, decide_eq_true_eq, fulls_iff] at hf
    obtain ⟨⟨⟨a, c⟩, e⟩, f⟩ := hf
    obtain rfl : ps = [] := List.eq_nil_of_length_eq_zero e
    exact .node a c fun k hk => ih k hk (f k hk)
theorem Shp.full : ∀ {b : Bool} {d : Nat} {x : Tw}, Shp b d x → Tw.full b x = true ∧ Lev d x := by
  intro b d x h
  induction h with
  | leaf h1 h2 =>
    rename_i b ps
    refine ⟨?_, .leaf⟩
    simp only [full_leaf, Bool.and_eq_true, decide_eq_true_eq, Bool.or_eq_true]
    exact ⟨h2, by cases b <;> simp at h1 ⊢ <;> omega⟩
  | node h1 h2 h3 ih =>
    rename_i b d ks
    have hne : ks ≠ [] := by intro e; subst e; simp at h1
    refine ⟨?_, .node hne fun k hk => (ih k hk).2⟩
    simp only [full_node hne, Bool.and_eq_true, decide_eq_true_eq, fulls_iff]
    exact ⟨⟨⟨h1, h2⟩, rfl⟩, fun k hk => (ih k hk).1⟩
/-! The order of keys; a pair put into pairs, a key taken out of them. -/
def Srt (l : List RngX) : Prop := l.Pairwise fun p q => strLt p.lo q.lo = true
def kvOkB (p : RngX) : Bool := keyOkB p.lo && decide (p.hi.size ≤ 60)
structure PairsOkP (l : List RngX) : Prop where
  len : l.length ≤ 200
  ok : ∀ p ∈ l, kvOkB p = true
  srt : Srt l
theorem le_lt {a b c : ByteArray} (h : strLt b a = false) (h' : strLt b c = true) : strLt a c = true := by
  cases e : strLt a b with
  | true => exact strLt_trans e h'
  | false => rw [strLt_tri e h]; exact h'
theorem lt_asym {a b : ByteArray} (h : strLt a b = true) : strLt b a = false := by
  cases e : strLt b a with
  | false => rfl
  | true => have := strLt_trans h e; rw [strLt_irrefl] at this; cases this
def insL (p : RngX) : List RngX → List RngX
  | [] => [p]
  | x :: l => if strLt x.lo p.lo then x :: insL p l else if strLt p.lo x.lo then p :: x :: l else p :: l
/-! The way to a key -/
def wayI (ks : List Tw) (key : ByteArray) : Nat := ((ks.drop 1).takeWhile fun c => !strLt key c.least).length
theorem at_split {α : Type} {ks : List α} {i : Nat} {c : α} (h : ks[i]? = some c) : ks = ks.take i ++ c :: ks.drop (i + 1) := by
  have hi := (List.getElem?_eq_some_iff.1 h).1
  have h1 := List.drop_eq_getElem_cons hi
  rw [(List.getElem?_eq_some_iff.1 h).2] at h1
  rw [← h1, List.take_append_drop]
theorem Tw.alls_at {ks : List Tw} {i : Nat} {c : Tw} (h : ks[i]? = some c) : Tw.alls ks = Tw.alls (ks.take i) ++ (c.all ++ Tw.alls (ks.drop (i + 1))) := by
  conv => lhs; rw [at_split h]
  rw [Tw.alls_app]; rfl
/-! Putting -/
def two (r : Tw × Option Tw) : List Tw := r.1 :: r.2.toList
def splitP (l : List RngX) : Tw × Option Tw := if l.length ≤ 4 then (.mk l [], none) else (.mk (l.take 3) [], some (.mk (l.drop 3) []))
def splitK (l : List Tw) : Tw × Option Tw := if l.length ≤ 4 then (.mk [] l, none) else (.mk [] (l.take 3), some (.mk [] (l.drop 3)))
def Tw.put : Nat → Tw → RngX → Tw × Option Tw
  | 0, x, _ => (x, none)
  | _ + 1, .mk ps [], p => splitP (insL p ps)
  | n + 1, .mk ps (c :: cs), p => match (c :: cs)[wayI (c :: cs) p.lo]? with
    | none => (.mk ps (c :: cs), none)
    | some k => splitK ((c :: cs).take (wayI (c :: cs) p.lo) ++ (two (k.put n p) ++ (c :: cs).drop (wayI (c :: cs) p.lo + 1)))
/-! Dropping -/
/-! Roots: a node, or none -/
def allO : Option Tw → List RngX
  | none => []
  | some x => x.all
def layO : Option Tw → List NodeX
  | none => []
  | some x => x.lay 0
def deepO : Option Tw → Nat
  | none => 0
  | some x => x.deep
def ShpO : Option Tw → Prop
  | none => True
  | some x => ∃ d, Shp true d x
/-- A right tree: of a root, or of none. -/
structure Vo (o : Option Tw) : Prop where
  shp : ShpO o
  ok : PairsOkP (allO o)
def TreeP (N : List NodeX) : Prop := ∃ o, Vo o ∧ N = layO o
theorem layO_nil {o : Option Tw} : layO o = [] ↔ o = none := by
  cases o with
  | none => simp [layO]
  | some x =>
    have h := Tw.lay_len x 0
    have := x.size_pos
    simp only [layO]
    constructor
    · intro e; rw [e] at h; simp at h; omega
    · intro e; cases e
theorem layO_inj {o o' : Option Tw} (h : layO o = layO o') : o = o' := by
  cases o with
  | none => exact (layO_nil.1 h.symm).symm
  | some x =>
    cases o' with
    | none => exact layO_nil.1 h
    | some y =>
      have h : x.lay 0 = y.lay 0 := h
      obtain ⟨a, _⟩ := fit_all.2 (show x.lay 0 = x.lay 0 from rfl)
      obtain ⟨b, _⟩ := fit_all.2 (show y.lay 0 = y.lay 0 from rfl)
      rw [← h] at b
      rw [Fit.uniq x y 0 a b]
end Go.Vm
namespace Go.Vm
open Go.Proofs
set_option maxRecDepth 100000
set_option linter.unusedVariables false
set_option linter.unusedSimpArgs false

/-! A node with what is below it, n levels deep -/
def twE : Nat → Tw → List D
  | 0, _ => [.dead]
  | n + 1, .mk ps ks => [.box [.row 2 RngX.ds ps, .row 1 (twE n) ks]]
theorem twE_len (n : Nat) (x : Tw) : (twE n x).length = 1 := by cases n <;> cases x <;> rfl
def strE1 (s : ByteArray) : List D := [.lf (.string s)]
def intE1 (n : Int) : List D := [.lf (.int .i64 n)]
def NodeX.ds (n : NodeX) : List D := [.row 2 RngX.ds n.ps, .row 1 strE1 n.keys, .row 1 intE1 n.kids]
def valOkB (s : ByteArray) : Bool := decide (s.size ≤ 60)
theorem ev_iValOk : ∀ x, evFnX tab [] (cS1 valOkB) Tryz.f97 (body Tryz.f97) x := by
  intro s
  conv => whnf
  refine ⟨⟨rfl, ?_⟩⟩
  show _ = [[D.lf (.bool (valOkB s))]]
  unfold valOkB
  congr 4
  exact decide_eq_decide.2 (by omega)
theorem iValOk_ok : FnOk Tryz.prog 97 (cS1 valOkB) := fnOk_of fun x => fnX_at tab_ok (SOk.nil) mixed (fn := Tryz.f97) (code := body Tryz.f97) ⟨Tryz.func97, rfl, by kernel_rfl, by kernel_rfl, by kernel_rfl, by kernel_rfl⟩ (ev_iValOk x)
theorem ev_iPairOk : ∀ x, evFnX tab [(96, cKeyOk), (97, (cS1 valOkB))] (pureC RngX [(.rd, true)] [false] (fun x => [x.ds]) (fun x => [[.lf (.bool (kvOkB x))]])) Tryz.f183 (body Tryz.f183) x := by
  rintro ⟨k, v⟩
  conv => whnf
  refine ⟨k, rfl, ?_⟩
  rintro _ _ ⟨rfl, rfl⟩
  conv => whnf
  refine br2 (fun h => ?_) (fun h => ?_)
  · replace h : keyOkB k = true := h
    conv => whnf
    refine ⟨v, rfl, ?_⟩
    rintro _ _ ⟨rfl, rfl⟩
    conv => whnf
    refine ⟨⟨rfl, ?_⟩⟩
    show [[D.lf (.bool (valOkB v))]] = [[D.lf (.bool (kvOkB ⟨k, v⟩))]]
    simp [kvOkB, h, valOkB]
  · replace h : keyOkB k = false := h
    conv => whnf
    refine ⟨⟨rfl, ?_⟩⟩
    show _ = [[D.lf (.bool (kvOkB ⟨k, v⟩))]]
    simp [kvOkB, h]
theorem iPairOk_ok : FnOk Tryz.prog 183 (pureC RngX [(.rd, true)] [false] (fun x => [x.ds]) (fun x => [[.lf (.bool (kvOkB x))]])) := fnOk_of fun x => fnX_at tab_ok (SOk.cons iKeyOk_ok (SOk.cons iValOk_ok SOk.nil)) mixed (fn := Tryz.f183) (code := body Tryz.f183) ⟨Tryz.func183, rfl, by kernel_rfl, by kernel_rfl, by kernel_rfl, by kernel_rfl⟩ (ev_iPairOk x)
/-- Pairs are right so far, and their keys rise. -/
def RiseTo (l : List RngX) (i : Nat) : Prop := ∀ j y, j < i → l[j]? = some y → kvOkB y = true ∧ ∀ z, 0 < j → l[j - 1]? = some z → strLt z.lo y.lo = true
theorem riseTo_all {l : List RngX} : RiseTo l l.length ↔ (∀ p ∈ l, kvOkB p = true) ∧ Srt l := by
  constructor
  · intro h
    refine ⟨fun p hp => ?_, ?_⟩
    · obtain ⟨j, hj⟩ := List.getElem?_of_mem hp
      exact (h j p (List.getElem?_eq_some_iff.1 hj).1 hj).1
    · unfold Srt
      have key : ∀ i j (hi : i < l.length) (hj : j < l.length), i < j → strLt l[i].lo l[j].lo = true := by
        intro i j hi hj hij
        induction j with
        | zero => omega
        | succ j ih =>
          have h1 := (h (j + 1) l[j + 1] hj (List.getElem?_eq_getElem hj)).2 l[j] (by omega) (List.getElem?_eq_getElem (by omega))
          rcases Nat.lt_or_ge i j with h2 | h2
          · exact strLt_trans (ih (by omega) h2) h1
          · obtain rfl : i = j := by omega
            exact h1
      exact List.pairwise_iff_getElem.2 fun i j hi hj hij => key i j hi hj hij
  · rintro ⟨h1, h2⟩ j y hj hy
    refine ⟨h1 y (List.mem_of_getElem? hy), fun z h0 hz => ?_⟩
    have h3 := List.pairwise_iff_getElem.1 h2 (j - 1) j (by omega) hj (by omega)
    have e1 := (List.getElem?_eq_some_iff.1 hy).2
    have e2 := (List.getElem?_eq_some_iff.1 hz).2
    rw [e1, e2] at h3
    exact h3
def cRise (P : List RngX → Prop) : Con := relC (List RngX) [(.rd, false)] [false] (fun l => [[.row 2 RngX.ds l]]) (fun l r => ∃ b : Bool, r = [[.lf (.bool b)]] ∧ (b = true ↔ P l))
theorem ev_iRise : ∀ x, evFnX tab [(183, (pureC RngX [(.rd, true)] [false] (fun x => [x.ds]) (fun x => [[.lf (.bool (kvOkB x))]])))] (cRise fun l => (∀ p ∈ l, kvOkB p = true) ∧ Srt l) Tryz.f149 (body Tryz.f149) x := by
  intro (l : List RngX)
  conv => whnf
  intro hl
  replace hl : l.length ≤ 9223372036854775807 := hl
  conv => whnf
  let S0 : Nat → Sl := fun i => [(7, .lf (.int .i64 i)), (6, .lf (.int .i64 l.length)), (5, .sl 0 none), (0, .sl 0 none)]
  let H0 : Hp := [(0, some (.row .lent 2 RngX.ds l))]
  refine ⟨fun m s h => ∃ i : Nat, i ≤ l.length ∧ RiseTo l i ∧ m = l.length - i ∧ s = S0 i ∧ h = H0, l.length, [(0, 0)], S0 0, H0, ⟨rfl, ⟨rfl, rfl, rfl, rfl, trivial⟩, rfl, trivial⟩, ⟨0, by omega, fun j y h => by omega, by omega, rfl, rfl⟩, ?_⟩
  rintro m _ _ ⟨i, g1, g2, rfl, rfl, rfl⟩
  conv => whnf
  refine br2 (fun h5 => ?_) (fun h5 => ?_)
  · have hi : i < l.length := by have := of_decide_eq_true h5; omega
    obtain ⟨y, hy⟩ := getL hi
    have no : ¬ (kvOkB y = true ∧ ∀ z, 0 < i → l[i - 1]? = some z → strLt z.lo y.lo = true) → (false = true ↔ (∀ p ∈ l, kvOkB p = true) ∧ Srt l) := fun h =>
      ⟨fun e => (by cases e), fun e => absurd (riseTo_all.2 e i y hi hy) h⟩
    have yes : (kvOkB y = true ∧ ∀ z, 0 < i → l[i - 1]? = some z → strLt z.lo y.lo = true) → RiseTo l (i + 1) := fun h j z hj hz => by
      rcases Nat.lt_or_ge j i with h1 | h1
      · exact g2 j z h1 hz
      · obtain rfl : j = i := by omega
        rw [hy] at hz; cases hz; exact h
    conv => whnf
    refine ⟨Int.natCast_nonneg _, ltI hy, ?_⟩
    conv => whnf
    refine ex2 _ (nthI hy) ?_
    conv => whnf
    refine ⟨y, rfl, ?_⟩
    rintro _ _ ⟨rfl, rfl⟩
    conv => whnf
    repeat ((first | refine rc_i rfl ?_ | refine rc_i (fun _ => rfl) ?_); conv => whnf)
    have hw1 : 0 < i → IntKind.i64.wrap ((i : Int) - 1) = ((i - 1 : Nat) : Int) := fun h => by rw [w64 (by omega) (by omega)]; omega
    have back : ∀ {s' : Sl} {h' : Hp}, RiseTo l (i + 1) → Le [(0, 0)] (S0 (i + 1)) H0 s' h' → ∃ m' ρ s'' h'', m' < l.length - i ∧ Le ρ s'' h'' s' h' ∧ ∃ i, i ≤ l.length ∧ RiseTo l i ∧ m' = l.length - i ∧ s'' = S0 i ∧ h'' = H0 := fun h hle =>
      ⟨l.length - (i + 1), [(0, 0)], S0 (i + 1), H0, by omega, hle, i + 1, by omega, h, rfl, rfl, rfl⟩
    refine br2 (fun h6 => ?_) (fun h6 => ?_)
    · have h6' : kvOkB y = false := by
        replace h6 : (!kvOkB y) = true := h6
        simpa using h6
      conv => whnf
      exact ⟨⟨rfl, false, rfl, no fun h => by rw [h6'] at h; cases h.1⟩⟩
    have h6' : kvOkB y = true := by
      replace h6 : (!kvOkB y) = false := h6
      simpa using h6
    conv => whnf
    refine br2 (fun h7 => ?_) (fun h7 => ?_)
    · have h7' : 0 < i := by have := of_decide_eq_true h7; omega
      obtain ⟨z, hz⟩ := getL (l := l) (j := i - 1) (by omega)
      conv => whnf
      refine ⟨(ixE (hw1 h7') hz).1, (ixE (hw1 h7') hz).2, ?_⟩
      conv => whnf
      refine ex2 _ (nthE (hw1 h7') hz) ?_
      conv => whnf
      repeat (refine rc_i (by (conv => whnf); first | rfl | exact ⟨(ixE (hw1 h7') hz).1, (ixE (hw1 h7') hz).2, rfl⟩ | exact ex2 _ (nthE (hw1 h7') hz) rfl) ?_; conv => whnf)
      refine br2 (fun h8 => ?_) (fun h8 => ?_)
      · have h8' : strLt z.lo y.lo = false := by
          replace h8 : (!strLt z.lo y.lo) = true := h8
          simpa using h8
        conv => whnf
        exact ⟨⟨rfl, false, rfl, no fun h => by rw [h.2 z h7' hz] at h8'; cases h8'⟩⟩
      · have h8' : strLt z.lo y.lo = true := by
          replace h8 : (!strLt z.lo y.lo) = false := h8
          simpa using h8
        conv => whnf
        exact back (yes ⟨h6', fun z' _ hz' => by rw [hz] at hz'; cases hz'; exact h8'⟩) ⟨rfl, ⟨incI hi hl, rfl, rfl, rfl, trivial⟩, rfl, trivial⟩
    · have h7' : ¬ 0 < i := by have := of_decide_eq_false h7; omega
      conv => whnf
      exact back (yes ⟨h6', fun z' h0 _ => absurd h0 h7'⟩) ⟨rfl, ⟨incI hi hl, rfl, rfl, rfl, trivial⟩, rfl, trivial⟩
  · have hi : i = l.length := by have := of_decide_eq_false h5; omega
    subst hi
    conv => whnf
    exact ⟨⟨rfl, true, rfl, fun _ => riseTo_all.1 g2, fun _ => rfl⟩⟩
theorem iRise_ok : FnOk Tryz.prog 149 (cRise fun l => (∀ p ∈ l, kvOkB p = true) ∧ Srt l) := fnOk_of fun x => fnX_at tab_ok (SOk.cons iPairOk_ok SOk.nil) mixed (fn := Tryz.f149) (code := body Tryz.f149) ⟨Tryz.func149, rfl, by kernel_rfl, by kernel_rfl, by kernel_rfl, by kernel_rfl⟩ (ev_iRise x)
def cPairsOk : Con := cRise PairsOkP
theorem ev_iPairsOk : ∀ x, evFnX tab [(149, (cRise fun l => (∀ p ∈ l, kvOkB p = true) ∧ Srt l))] cPairsOk Tryz.f95 (body Tryz.f95) x := by
  intro (l : List RngX)
  conv => whnf
  refine ⟨l, rfl, ?_⟩
  rintro _ _ ⟨rfl, b, rfl, e⟩
  conv => whnf
  refine br2 (fun h => ?_) (fun h => ?_)
  · have h1 := e.1 h
    conv => whnf
    intro hl
    conv => whnf
    refine ⟨⟨rfl, _, rfl, ?_, ?_⟩⟩
    · intro h2
      have := of_decide_eq_true h2
      exact ⟨by omega, h1.1, h1.2⟩
    · intro h2
      exact decide_eq_true (by have := h2.len; omega)
  · conv => whnf
    refine ⟨⟨rfl, _, rfl, ?_, ?_⟩⟩
    · intro h2; cases h2
    · intro h2
      have := e.2 ⟨h2.ok, h2.srt⟩
      rw [this] at h; cases h
theorem iPairsOk_ok : FnOk Tryz.prog 95 cPairsOk := fnOk_of fun x => fnX_at tab_ok (SOk.cons iRise_ok SOk.nil) mixed (fn := Tryz.f95) (code := body Tryz.f95) ⟨Tryz.func95, rfl, by kernel_rfl, by kernel_rfl, by kernel_rfl, by kernel_rfl⟩ (ev_iPairsOk x)
theorem ev_copyPairs : ∀ x, evFnX tab [] (cCopyS 2 RngX.ds) Tryz.f146 (body Tryz.f146) x := by
  rintro ⟨l, hl⟩
  conv => whnf
  refine ⟨fun _ => rfl, ?_⟩
  conv => whnf
  refine ⟨RngX, RngX.ds, l, fun _ => rfl, rfl, (show l.length ≤ 4294967296 by omega), ?_⟩
  conv => whnf
  exact ⟨⟨rfl, rfl⟩⟩
theorem copyPairs_ok : FnOk Tryz.prog 146 (cCopyS 2 RngX.ds) := fnOk_of fun x => fnX_at tab_ok (SOk.nil) mixed (fn := Tryz.f146) (code := body Tryz.f146) ⟨Tryz.func146, rfl, by kernel_rfl, by kernel_rfl, by kernel_rfl, by kernel_rfl⟩ (ev_copyPairs x)
/-- A node whose kids and pairs are there, told n levels deep. -/
structure TwX where
  n : Nat
  x : Tw
  b : Bool
  d : Nat
  h : Shp b d x
  hn : d ≤ n
theorem ev_isLeaf : ∀ x, evFnX tab [] (pureC (Nat × Tw) [(.rd, false)] [false] (fun t => [twE (t.1 + 1) t.2]) (fun t => [[.lf (.bool (decide (t.2.ks.length = 0)))]])) Tryz.f150 (body Tryz.f150) x := by
  rintro ⟨n, ⟨ps, ks⟩⟩
  conv => whnf
  intro h
  conv => whnf
  refine ⟨⟨rfl, ?_⟩⟩
  show [[D.lf (.bool ((ks.length : Int) == 0))]] = [[D.lf (.bool (decide (ks.length = 0)))]]
  congr 4
  rw [Bool.eq_iff_iff]
  simp
theorem isLeaf_ok : FnOk Tryz.prog 150 (pureC (Nat × Tw) [(.rd, false)] [false] (fun t => [twE (t.1 + 1) t.2]) (fun t => [[.lf (.bool (decide (t.2.ks.length = 0)))]])) := fnOk_of fun x => fnX_at tab_ok (SOk.nil) mixed (fn := Tryz.f150) (code := body Tryz.f150) ⟨Tryz.func150, rfl, by kernel_rfl, by kernel_rfl, by kernel_rfl, by kernel_rfl⟩ (ev_isLeaf x)
def cLeast : Con := pureC TwX [(.rd, false)] [false] (fun t => [twE t.n t.x]) (fun t => [[.lf (.string t.x.least)]])
theorem ev_least : ∀ x, evFnX tab [(150, (pureC (Nat × Tw) [(.rd, false)] [false] (fun t => [twE (t.1 + 1) t.2]) (fun t => [[.lf (.bool (decide (t.2.ks.length = 0)))]])))] cLeast Tryz.f148 (body Tryz.f148) x := by
  rintro ⟨n, x, b, d, h, hn⟩
  have hpos := h.pos
  obtain ⟨n, rfl⟩ : ∃ m, n = m + 1 := ⟨n - 1, by omega⟩
  obtain ⟨ps, ks⟩ := x
  conv => whnf
  let S0 : Sl := [(0, .pt 0 0 0)]
  let H0 : Nat → List RngX → List Tw → Hp := fun n ps ks => [(0, some (.arr false 2 [[.sl 1 none, .sl 2 none]])), (1, some (.row .lent 2 RngX.ds ps)), (2, some (.row .lent 1 (twE n) ks))]
  refine ⟨fun m s h => ∃ (n : Nat) (qs : List RngX) (js : List Tw) (b : Bool), Shp b m (.mk qs js) ∧ m ≤ n + 1 ∧ (Tw.mk qs js).least = (Tw.mk ps ks).least ∧ s = S0 ∧ h = H0 n qs js, d, [(0, 0), (1, 1), (2, 2)], S0, H0 n ps ks,
    ⟨rfl, ⟨rfl, trivial⟩, rfl, rfl, rfl, trivial⟩, ⟨n, ps, ks, b, h, hn, rfl, rfl, rfl⟩, ?_⟩
  rintro m _ _ ⟨n', qs, js, b', g1, g2, g3, rfl, rfl⟩
  conv => whnf
  refine ⟨(n', .mk qs js), rfl, ?_⟩
  rintro _ _ ⟨rfl, rfl⟩
  conv => whnf
  refine br2 (fun h5 => ?_) (fun h5 => ?_)
  · have hj : js ≠ [] := by
      replace h5 : (!decide (js.length = 0)) = true := h5
      rintro rfl; simp at h5
    cases g1 with
    | leaf => exact absurd rfl hj
    | node k1 k2 k3 =>
      rename_i m
      obtain ⟨⟨us, is⟩, hk⟩ : ∃ k, js[0]? = some k := getL (by omega)
      have hks := k3 _ (List.mem_of_getElem? hk)
      have hp := hks.pos
      obtain ⟨n', rfl⟩ : ∃ q, n' = q + 1 := ⟨n' - 1, by omega⟩
      conv => whnf
      refine ⟨by decide, ltI hk, ?_⟩
      conv => whnf
      refine ex2 _ (nthI hk) ?_
      conv => whnf
      refine ⟨m, [(176, 0), (177, 1), (178, 2)], S0, H0 n' us is, by omega, ⟨rfl, ⟨rfl, trivial⟩, rfl, rfl, rfl, trivial⟩, n', us, is, false, hks, by omega, ?_, rfl, rfl⟩
      rw [← g3]
      cases js with
      | nil => simp at hk
      | cons c cs => cases hk; rfl
  · have hj : js = [] := by
      replace h5 : (!decide (js.length = 0)) = false := h5
      exact List.eq_nil_of_length_eq_zero (by simpa using h5)
    subst hj
    cases g1 with
    | node k1 => simp at k1
    | leaf k1 k2 =>
      obtain ⟨y, hy⟩ : ∃ y, qs[0]? = some y := getL (by cases b' <;> simp at k1 <;> omega)
      conv => whnf
      refine ⟨by decide, ltI hy, ?_⟩
      conv => whnf
      refine ex2 _ (nthI hy) ?_
      conv => whnf
      refine ⟨⟨rfl, ?_⟩⟩
      show [[D.lf (.string y.lo)]] = [[D.lf (.string (Tw.mk ps ks).least)]]
      rw [← g3]
      cases qs with
      | nil => simp at hy
      | cons c cs => cases hy; rfl
theorem least_ok : FnOk Tryz.prog 148 cLeast := fnOk_of fun x => fnX_at tab_ok (SOk.cons isLeaf_ok SOk.nil) mixed (fn := Tryz.f148) (code := body Tryz.f148) ⟨Tryz.func148, rfl, by kernel_rfl, by kernel_rfl, by kernel_rfl, by kernel_rfl⟩ (ev_least x)
/-- All pairs behind others. -/
structure AllX where
  t : TwX
  l : List RngX
  hl : l.length + t.x.all.length ≤ 4294967296
def cAll : Con := pureC AllX [(.rd, false), (.take, false)] [false] (fun a => [twE a.t.n a.t.x, [.row 2 RngX.ds a.l]]) (fun a => [[.row 2 RngX.ds (a.l ++ a.t.x.all)]])
theorem Tw.alls_take {ks : List Tw} {i : Nat} {k : Tw} (h : ks[i]? = some k) : Tw.alls (ks.take (i + 1)) = Tw.alls (ks.take i) ++ k.all := by
  rw [List.take_add_one, h, Tw.alls_app]; simp [Tw.alls]
theorem Tw.alls_le {ks : List Tw} {i : Nat} {k : Tw} (h : ks[i]? = some k) : (Tw.alls (ks.take i)).length + k.all.length ≤ (Tw.alls ks).length := by
  rw [Tw.alls_at h]; simp
theorem ev_all : ∀ n x, (fun a => a.t.d) x = n → evFnX tab [(52, cAll.below (fun a => a.t.d) n)] cAll Tryz.f52 (body Tryz.f52) x := by
  rintro N ⟨⟨n, x, b, d, h, hn⟩, l, hl⟩ rfl
  have hpos := h.pos
  obtain ⟨n, rfl⟩ : ∃ m, n = m + 1 := ⟨n - 1, by omega⟩
  obtain ⟨ps, ks⟩ := x
  replace hl : l.length + (Tw.alls ks ++ ps).length ≤ 4294967296 := hl
  rw [List.length_append] at hl
  replace hn : d ≤ n + 1 := hn
  have hk4 : ks.length ≤ 4 := by cases h <;> simp_all
  have hps : ps.length ≤ 4 := by cases h <;> simp_all
  have hkid : ∀ k ∈ ks, ∃ d', d' < d ∧ Shp false d' k := by
    intro k hk
    cases h with
    | leaf => simp at hk
    | node k1 k2 k3 => exact ⟨_, Nat.lt_succ_self _, k3 k hk⟩
  conv => whnf
  intro hx
  conv => whnf
  let S0 : Nat → Sl := fun i => [(12, .lf (.int .i64 i)), (11, .lf (.int .i64 ks.length)), (10, .sl 2 none), (1, .sl 16 none), (0, .pt 0 0 0)]
  let H0 : Nat → Hp := fun i => [(16, some (.row .own 2 RngX.ds (l ++ Tw.alls (ks.take i)))), (0, some (.arr false 2 [[.sl 1 none, .sl 2 none]])), (1, some (.row .lent 2 RngX.ds ps)), (2, some (.row .lent 1 (twE n) ks))]
  refine ⟨fun m s h => ∃ i : Nat, i ≤ ks.length ∧ m = ks.length - i ∧ s = S0 i ∧ h = H0 i, ks.length, [(16, 16), (0, 0), (1, 1), (2, 2)], S0 0, H0 0,
    ⟨rfl, ⟨rfl, rfl, rfl, rfl, rfl, trivial⟩, by show _ = some _; simp [Tw.alls, H0]; rfl, rfl, rfl, rfl, trivial⟩, ⟨0, by omega, rfl, rfl, rfl⟩, ?_⟩
  rintro m _ _ ⟨i, g1, rfl, rfl, rfl⟩
  conv => whnf
  refine br2 (fun h5 => ?_) (fun h5 => ?_)
  · have hi : i < ks.length := by have := of_decide_eq_true h5; omega
    obtain ⟨k, hk⟩ := getL hi
    obtain ⟨d', hd, hks⟩ := hkid k (List.mem_of_getElem? hk)
    obtain ⟨us, is⟩ := k
    have hp := hks.pos
    obtain ⟨n', rfl⟩ : ∃ q, n = q + 1 := ⟨n - 1, by omega⟩
    have hal := Tw.alls_le hk
    conv => whnf
    refine ⟨Int.natCast_nonneg _, ltI hk, ?_⟩
    conv => whnf
    refine ex2 _ (nthI hk) ?_
    conv => whnf
    refine ⟨⟨⟨⟨n' + 1, .mk us is, false, d', hks, by omega⟩, l ++ Tw.alls (ks.take i), (show (l ++ Tw.alls (ks.take i)).length + (Tw.mk us is).all.length ≤ 4294967296 by rw [List.length_append]; omega)⟩, hd⟩, rfl, ?_⟩
    rintro _ _ ⟨rfl, rfl⟩
    conv => whnf
    refine ⟨ks.length - (i + 1), [(288, 16), (0, 0), (1, 1), (2, 2)], S0 (i + 1), H0 (i + 1), by omega, ⟨rfl, ⟨incI hi (by omega), rfl, rfl, rfl, rfl, trivial⟩, ?_, rfl, rfl, rfl, trivial⟩, i + 1, by omega, rfl, rfl, rfl⟩
    show _ = some (Ob.row Kind.own 2 RngX.ds (l ++ Tw.alls (ks.take (i + 1))))
    rw [Tw.alls_take hk, ← List.append_assoc]; rfl
  · have hi : i = ks.length := by have := of_decide_eq_false h5; omega
    subst hi
    conv => whnf
    refine ⟨fun _ => rfl, ps, rfl, ?_, ?_⟩
    · show (l ++ Tw.alls (ks.take ks.length)).length + ps.length ≤ 4294967296
      rw [List.take_length, List.length_append]; omega
    conv => whnf
    refine ⟨⟨rfl, ?_⟩⟩
    show [[D.row 2 RngX.ds (l ++ Tw.alls (ks.take ks.length) ++ ps)]] = [[D.row 2 RngX.ds (l ++ (Tw.alls ks ++ ps))]]
    rw [List.take_length, List.append_assoc]
theorem all_ok : FnOk Tryz.prog 52 cAll := fn_rec (fun a => a.t.d) fun n hs x hx => fnX_at tab_ok (SOk.cons hs (SOk.nil)) mixed (fn := Tryz.f52) (code := body Tryz.f52) ⟨Tryz.func52, rfl, by kernel_rfl, by kernel_rfl, by kernel_rfl, by kernel_rfl⟩ (ev_all n x hx)

end Go.Vm
namespace Go.Vm
open Go.Proofs
set_option maxRecDepth 100000
set_option linter.unusedVariables false
set_option linter.unusedSimpArgs false

/-! Growing a tree out of its nodes -/
mutual
theorem Tw.deep_le : ∀ x : Tw, x.deep ≤ x.size
  | .mk ps ks => by simp only [Tw.deep, Tw.size]; have := Tw.deeps_le ks; omega
theorem Tw.deeps_le : ∀ ks : List Tw, Tw.deeps ks ≤ Tw.sizes ks
  | [] => Nat.le_refl _
  | k :: ks => by simp only [Tw.deeps, Tw.sizes]; have := Tw.deep_le k; have := Tw.deeps_le ks; omega
end
structure GrowX where
  N : List NodeX
  at_ : Nat
  root : Bool
  f : Nat
  hN : N.length ≤ 1048576
  hf : N.length ≤ f + at_
  hp : ∀ n ∈ N, n.ps.length ≤ 1048576
def optE (f : Nat) : Option Tw → List D
  | none => [.lf (.pointer none)]
  | some x => twE f x
structure GrowR (N : List NodeX) (a : Nat) (root : Bool) (f : Nat) (o : Option Tw) (next deep : Int) (ok : Bool) : Prop where
  fuel : o ≠ none → 1 ≤ f
  yes : ok = true → ∃ x d, o = some x ∧ Shp root d x ∧ d ≤ f ∧ Fit true N a x ∧ next = ((a + x.size : Nat) : Int) ∧ deep = (d : Int)
  no : ok = false → ∀ x d, Shp root d x → ¬ Fit true N a x
def cGrow : Con := relC GrowX [(.rd, false), (.rd, false), (.rd, false)] [false, false, false, false] (fun g => [[.box [.row 3 NodeX.ds g.N]], [.lf (.int .i64 g.at_)], [.lf (.bool g.root)]])
  (fun g r => ∃ o next deep ok, r = [optE g.f o, [.lf (.int .i64 next)], [.lf (.int .i64 deep)], [.lf (.bool ok)]] ∧ GrowR g.N g.at_ g.root g.f o next deep ok)
/-- What is known of the kids that are grown so far. -/
structure KidsTo (N : List NodeX) (a : Nat) (n : NodeX) (l : List Tw) (dd : Nat) : Prop where
  fit : FitK true N (a + 1) l
  kids : n.kids.take l.length = kidsAt l (a + 1)
  keys : ∀ j k, 0 < j → l[j]? = some k → n.keys[j - 1]? = some k.least
  shp : ∀ k ∈ l, Shp false dd k
  zero : l = [] → dd = 0
theorem KidsTo.snoc {N : List NodeX} {a : Nat} {n : NodeX} {l : List Tw} {dd d : Nat} {k : Tw} (h : KidsTo N a n l dd) (hk : n.kids[l.length]? = some (((a + 1 + Tw.sizes l : Nat)) : Int)) (hf : Fit true N (a + 1 + Tw.sizes l) k) (hs : Shp false d k)
    (he : 0 < l.length → d = dd) (hkey : 0 < l.length → n.keys[l.length - 1]? = some k.least) : KidsTo N a n (l ++ [k]) d := by
  refine ⟨fitK_app.2 ⟨h.fit, fitK_one.2 hf⟩, ?_, fun j q h0 hq => ?_, fun q hq => ?_, fun e => by simp at e⟩
  · rw [List.length_append, List.length_singleton, List.take_add_one, h.kids, hk, kidsAt_app]; rfl
  · rcases Nat.lt_or_ge j l.length with h1 | h1
    · rw [List.getElem?_append_left h1] at hq; exact h.keys j q h0 hq
    · rw [List.getElem?_append_right h1] at hq
      have e : j = l.length := by
        rcases Nat.lt_or_ge 0 (j - l.length) with h2 | h2
        · rw [List.getElem?_eq_none (by simp only [List.length_singleton]; omega)] at hq; cases hq
        · omega
      subst e
      simp at hq; subst hq; exact hkey h0
  · rcases List.mem_append.1 hq with hq | hq
    · have hl : 0 < l.length := List.length_pos_of_mem hq
      rw [he hl]; exact h.shp q hq
    · simp at hq; subst hq; exact hs
/-- Where a node fits, its kids stand where these do. -/
theorem KidsTo.next {N : List NodeX} {a : Nat} {n : NodeX} {l : List Tw} {dd : Nat} (h : KidsTo N a n l dd) (hn : N[a]? = some n) (hl : l.length < n.kids.length) {x : Tw} {root : Bool} {d : Nat} (hx : Shp root d x) (hf : Fit true N a x) :
    ∃ k e, n.kids[l.length]? = some ((a + 1 + Tw.sizes l : Nat) : Int) ∧ Fit true N (a + 1 + Tw.sizes l) k ∧ Shp false e k ∧ (0 < l.length → e = dd ∧ n.keys[l.length - 1]? = some k.least) := by
  obtain ⟨ps, ks⟩ := x
  simp only [Fit] at hf
  obtain ⟨⟨n', e1, e2, e3, e4⟩, h2⟩ := hf
  rw [hn] at e1; cases e1
  have hlen : n.kids.length = ks.length := by rw [e3, kidsAt_len]
  have hfr := h.fit.front h2 (by omega)
  obtain ⟨k, hk⟩ := getL (l := ks) (j := l.length) (by omega)
  have hkf := h2.get hk
  rw [← hfr] at hkf
  have hks : ∃ e, ∀ q ∈ ks, Shp false e q := by
    cases hx with
    | leaf => simp at hk
    | node _ _ h3 => exact ⟨_, h3⟩
  obtain ⟨e, hks⟩ := hks
  refine ⟨k, e, ?_, hkf, hks k (List.mem_of_getElem? hk), fun h0 => ⟨?_, ?_⟩⟩
  · rw [e3, kidsAt_get _ _ _ (by omega), ← hfr]
  · obtain ⟨q, hq⟩ := getL (l := l) (j := 0) h0
    have h5 := h.shp q (List.mem_of_getElem? hq)
    have h6 := hks q (by rw [hfr] at hq; exact List.mem_of_mem_take (List.mem_of_getElem? hq))
    rw [← h5.deep, ← h6.deep]
  · rw [e4 trivial, List.getElem?_map, List.getElem?_drop, show 1 + (l.length - 1) = l.length by omega, hk]; rfl
theorem ev_grow : ∀ n x, (fun g => g.N.length - g.at_) x = n → evFnX tab [(94, cGrow.below (fun g => g.N.length - g.at_) n), (1000013, cGh), (146, (cCopyS 2 RngX.ds)), (147, cWithin), (148, cLeast)] cGrow Tryz.f94 (body Tryz.f94) x := by
  rintro M ⟨N, a, root, f, hN, hf, hp⟩ rfl
  replace hN : N.length ≤ 1048576 := hN
  replace hf : N.length ≤ f + a := hf
  replace hp : ∀ n ∈ N, n.ps.length ≤ 1048576 := hp
  conv => whnf
  intro _
  conv => whnf
  refine br2 (fun h1 => ?_) (fun h1 => ?_)
  · have h1' : N.length ≤ a := by
      replace h1 : decide ((a : Int) ≥ (N.length : Int)) = true := h1
      have := of_decide_eq_true h1; omega
    conv => whnf
    refine ⟨⟨rfl, none, 0, 0, false, rfl, fun h => absurd rfl h, fun h => (by cases h), fun _ x d hx hfit => ?_⟩⟩
    have h2 : a + x.size ≤ N.length := hfit.le
    have := x.size_pos
    omega
  have h1' : a < N.length := by
    replace h1 : decide ((a : Int) ≥ (N.length : Int)) = false := h1
    have := of_decide_eq_false h1; omega
  obtain ⟨⟨ps, keys, kids⟩, hn⟩ := getL h1'
  obtain ⟨f, rfl⟩ : ∃ m, f = m + 1 := ⟨f - 1, by omega⟩
  conv => whnf
  refine ⟨Int.natCast_nonneg _, ltI hn, ?_⟩
  conv => whnf
  refine ex2 _ (nthI hn) ?_
  conv => whnf
  intro hk
  replace hk : kids.length ≤ 9223372036854775807 := hk
  conv => whnf
  refine br2 (fun h2 => ?_) (fun h2 => ?_)
  · have h2' : kids = [] := by
      replace h2 : ((kids.length : Int) == 0) = true := h2
      exact List.eq_nil_of_length_eq_zero (by simpa using h2)
    subst h2'
    have hps : ps.length ≤ 1048576 := hp _ (List.mem_of_getElem? hn)
    have leaf : ∀ {b : Bool}, (b = true ↔ ((if root then 1 else 2) ≤ ps.length ∧ ps.length ≤ 4 ∧ keys.length = 0)) → GrowR N a root (f + 1) (some (.mk ps [])) ((a + 1 : Nat) : Int) 1 b := by
      intro b hb
      refine ⟨fun _ => by omega, fun h => ?_, fun h x d hx hfit => ?_⟩
      · obtain ⟨h3, h4, h5⟩ := hb.1 h
        have hk0 : keys = [] := List.eq_nil_of_length_eq_zero h5
        subst hk0
        refine ⟨_, 1, rfl, .leaf h3 h4, by omega, ?_, by simp [Tw.size, Tw.sizes], rfl⟩
        simp only [Fit, FitK, and_true]
        exact ⟨_, hn, rfl, rfl, fun _ => rfl⟩
      · obtain ⟨qs, js⟩ := x
        simp only [Fit] at hfit
        obtain ⟨⟨n', e1, e2, e3, e4⟩, _⟩ := hfit
        rw [hn] at e1; cases e1
        have hjs : js = [] := by
          have := congrArg List.length e3
          rw [kidsAt_len] at this
          exact List.eq_nil_of_length_eq_zero this.symm
        subst hjs
        have e2 : ps = qs := e2
        subst e2
        have e4 : keys = [] := e4 trivial
        subst e4
        cases hx with
        | leaf h3 h4 =>
          have := hb.2 ⟨h3, h4, rfl⟩
          rw [this] at h; cases h
        | node k1 => simp at k1
    conv => whnf
    refine ⟨⟨ps, hps⟩, rfl, ?_⟩
    rintro _ _ ⟨rfl, rfl⟩
    conv => whnf
    have hw : IntKind.i64.wrap ((a : Int) + 1) = ((a + 1 : Nat) : Int) := by rw [w64 (by omega) (by omega)]; omega
    cases root
    all_goals
      conv => whnf
      intro _
      conv => whnf
      repeat ((first | refine rc_i rfl ?_ | refine rc_i (fun _ => rfl) ?_); conv => whnf)
      first | refine ⟨⟨ps.length, 1, 4⟩, rfl, ?_⟩ | refine ⟨⟨ps.length, 2, 4⟩, rfl, ?_⟩
      rintro _ _ ⟨rfl, rfl⟩
      conv => whnf
      repeat ((first | refine rc_i rfl ?_ | refine rc_i (fun _ => rfl) ?_); conv => whnf)
      refine br2 (fun h3 => ?_) (fun h3 => ?_)
      · first | replace h3 : (decide ((1 : Int) ≤ (ps.length : Int)) && decide ((ps.length : Int) ≤ 4)) = true := h3 | replace h3 : (decide ((2 : Int) ≤ (ps.length : Int)) && decide ((ps.length : Int) ≤ 4)) = true := h3
        simp only [Bool.and_eq_true, decide_eq_true_eq] at h3
        conv => whnf
        intro _
        conv => whnf
        repeat ((first | refine rc_i rfl ?_ | refine rc_i (fun _ => rfl) ?_); conv => whnf)
        refine ⟨1, Tw, twE f, twE_len f, ?_⟩
        conv => whnf
        refine ⟨⟨rfl, some (.mk ps []), _, _, _, rfl, ?_⟩⟩
        show GrowR N a _ (f + 1) _ (IntKind.i64.wrap ((a : Int) + 1)) 1 ((keys.length : Int) == 0)
        rw [hw]
        refine leaf ?_
        simp
        constructor
        · intro h; subst h; simp; omega
        · intro h; exact h.2.2
      · first | replace h3 : (decide ((1 : Int) ≤ (ps.length : Int)) && decide ((ps.length : Int) ≤ 4)) = false := h3 | replace h3 : (decide ((2 : Int) ≤ (ps.length : Int)) && decide ((ps.length : Int) ≤ 4)) = false := h3
        simp only [Bool.and_eq_false_iff, decide_eq_false_iff_not] at h3
        conv => whnf
        repeat ((first | refine rc_i rfl ?_ | refine rc_i (fun _ => rfl) ?_); conv => whnf)
        refine ⟨1, Tw, twE f, twE_len f, ?_⟩
        conv => whnf
        refine ⟨⟨rfl, some (.mk ps []), _, _, _, rfl, ?_⟩⟩
        show GrowR N a _ (f + 1) _ (IntKind.i64.wrap ((a : Int) + 1)) 1 false
        rw [hw]
        refine leaf ?_
        simp
        omega
  have h2' : kids ≠ [] := by
    replace h2 : ((kids.length : Int) == 0) = false := h2
    rintro rfl; simp at h2
  have hpos : 0 < kids.length := List.length_pos_iff.2 h2'
  have bad : ∀ {next deep : Int}, ¬ (2 ≤ kids.length ∧ kids.length ≤ 4 ∧ keys.length + 1 = kids.length ∧ ps = []) → GrowR N a root (f + 1) none next deep false := by
    intro next deep hb
    refine ⟨fun h => absurd rfl h, fun h => (by cases h), fun _ x d hx hfit => hb ?_⟩
    obtain ⟨qs, js⟩ := x
    simp only [Fit] at hfit
    obtain ⟨⟨n', e1, e2, e3, e4⟩, _⟩ := hfit
    rw [hn] at e1; cases e1
    have e2 : ps = qs := e2
    subst e2
    have e3 : kids = kidsAt js (a + 1) := e3
    have hl : kids.length = js.length := by rw [e3, kidsAt_len]
    replace e4 : keys = (js.drop 1).map Tw.least := e4 trivial
    cases hx with
    | leaf => simp at hl; exact absurd hl h2'
    | node k1 k2 k3 =>
      refine ⟨by omega, by omega, ?_, rfl⟩
      have := congrArg List.length e4
      simp at this; omega
  conv => whnf
  intro _
  conv => whnf
  refine ⟨⟨kids.length, 2, 4⟩, rfl, ?_⟩
  rintro _ _ ⟨rfl, rfl⟩
  conv => whnf
  have nil0 : ∀ {P : Prop}, P → P := fun h => h
  refine br2 (fun h3 => ?_) (fun h3 => ?_)
  · have h3' : ¬ (2 ≤ kids.length ∧ kids.length ≤ 4) := by
      replace h3 : (!(decide ((2 : Int) ≤ (kids.length : Int)) && decide ((kids.length : Int) ≤ 4))) = true := h3
      simp only [Bool.not_eq_true', Bool.and_eq_false_iff, decide_eq_false_iff_not] at h3
      omega
    conv => whnf
    exact ⟨⟨rfl, none, _, _, _, rfl, bad fun h => h3' ⟨h.1, h.2.1⟩⟩⟩
  have h3' : 2 ≤ kids.length ∧ kids.length ≤ 4 := by
    replace h3 : (!(decide ((2 : Int) ≤ (kids.length : Int)) && decide ((kids.length : Int) ≤ 4))) = false := h3
    simp only [Bool.not_eq_false', Bool.and_eq_true, decide_eq_true_eq] at h3
    omega
  conv => whnf
  intro hkl
  replace hkl : keys.length ≤ 9223372036854775807 := hkl
  conv => whnf
  intro _
  conv => whnf
  have hw4 : IntKind.i64.wrap ((kids.length : Int) - 1) = ((kids.length - 1 : Nat) : Int) := by rw [w64 (by omega) (by omega)]; omega
  refine br2 (fun h4 => ?_) (fun h4 => ?_)
  · have h4' : ¬ keys.length + 1 = kids.length := by
      replace h4 : ((keys.length : Int) != IntKind.i64.wrap ((kids.length : Int) - 1)) = true := h4
      rw [hw4] at h4
      simp at h4; omega
    conv => whnf
    exact ⟨⟨rfl, none, _, _, _, rfl, bad fun h => h4' h.2.2.1⟩⟩
  have h4' : keys.length + 1 = kids.length := by
    replace h4 : ((keys.length : Int) != IntKind.i64.wrap ((kids.length : Int) - 1)) = false := h4
    rw [hw4] at h4
    simp at h4; omega
  conv => whnf
  intro _
  conv => whnf
  refine br2 (fun h5 => ?_) (fun h5 => ?_)
  · have h5' : ps ≠ [] := by
      replace h5 : decide ((ps.length : Int) > 0) = true := h5
      rintro rfl; simp at h5
    conv => whnf
    exact ⟨⟨rfl, none, _, _, _, rfl, bad fun h => h5' h.2.2.2⟩⟩
  have h5' : ps = [] := by
    replace h5 : decide ((ps.length : Int) > 0) = false := h5
    have := of_decide_eq_false h5
    exact List.eq_nil_of_length_eq_zero (by omega)
  subst h5'
  conv => whnf
  refine ⟨[.nlc 576 0 1 1000], ?_⟩
  conv => whnf
  refine ⟨1, Tw, twE f, twE_len f, ?_⟩
  conv => whnf
  intro _
  conv => whnf
  have hw : IntKind.i64.wrap ((a : Int) + 1) = ((a + 1 : Nat) : Int) := by rw [w64 (by omega) (by omega)]; omega
  let S0 : Nat → Nat → Nat → Sl := fun i nx dd => [(88, .lf (.int .i64 i)), (87, .lf (.int .i64 kids.length)), (86, .sl 546 none), (13, .lf (.int .i64 nx)), (14, .lf (.int .i64 dd)), (10, .pt 160 0 0), (11, .pt 576 0 0), (0, .pt 0 0 0)]
  let H0 : List Tw → Hp := fun l => [(160, some (.arr true 3 [[.sl 544 none, .sl 545 none, .sl 546 none]])), (544, some (.row .lent 2 RngX.ds [])), (545, some (.row .lent 1 strE1 keys)), (546, some (.row .lent 1 intE1 kids)),
    (576, some (.arr true 2 [[.lf (.slice none 0 0), .sl 16000 none]])), (16000, some (.row .own 1 (twE f) l)), (0, some (.arr false 1 [[.sl 1 none]])), (1, some (.row .lent 3 NodeX.ds N))]
  refine ⟨fun m s h => ∃ (l : List Tw) (dd : Nat), l.length ≤ kids.length ∧ KidsTo N a ⟨[], keys, kids⟩ l dd ∧ dd ≤ f ∧ m = kids.length - l.length ∧ s = S0 l.length (a + 1 + Tw.sizes l) dd ∧ h = H0 l, kids.length, [(160, 160), (544, 544), (545, 545), (546, 546), (576, 576), (16000, 16000), (0, 0), (1, 1)], S0 0 (a + 1) 0, H0 [],
    ⟨rfl, ⟨rfl, rfl, rfl, ?_, rfl, rfl, rfl, rfl, trivial⟩, rfl, rfl, rfl, rfl, rfl, rfl, rfl, rfl, trivial⟩, ⟨[], 0, Nat.zero_le _, ⟨trivial, rfl, fun j k _ h => by simp at h, fun k h => by simp at h, fun _ => rfl⟩, by omega, rfl, rfl, rfl⟩, ?_⟩
  · show V.lf (.int .i64 (IntKind.i64.wrap ((a : Int) + 1))) = _
    rw [hw]
  rintro m _ _ ⟨l, dd, g1, hK, g2, rfl, rfl, rfl⟩
  conv => whnf
  refine br2 (fun h6 => ?_) (fun h6 => ?_)
  · have hi : l.length < kids.length := by have := of_decide_eq_true h6; omega
    obtain ⟨c, hc⟩ := getL hi
    have hfit : a + 1 + Tw.sizes l ≤ N.length := FitK.le l (a + 1) hK.fit (by omega)
    have fail : ∀ {next deep : Int}, (∀ k e, c = ((a + 1 + Tw.sizes l : Nat) : Int) → Fit true N (a + 1 + Tw.sizes l) k → Shp false e k → (0 < l.length → e = dd ∧ keys[l.length - 1]? = some k.least) → False) → GrowR N a root (f + 1) none next deep false := by
      intro next deep hb
      refine ⟨fun h => absurd rfl h, fun h => (by cases h), fun _ x d hx hfit => ?_⟩
      obtain ⟨k, e, k1, k2, k3, k4⟩ := hK.next hn hi hx hfit
      replace k1 : kids[l.length]? = some ((a + 1 + Tw.sizes l : Nat) : Int) := k1
      rw [hc] at k1
      exact hb k e (Option.some.inj k1) k2 k3 k4
    conv => whnf
    refine ⟨Int.natCast_nonneg _, ltI hc, ?_⟩
    conv => whnf
    refine ex2 _ (nthI hc) ?_
    conv => whnf
    refine br2 (fun h7 => ?_) (fun h7 => ?_)
    · have h7' : c ≠ ((a + 1 + Tw.sizes l : Nat) : Int) := by
        replace h7 : (c != ((a + 1 + Tw.sizes l : Nat) : Int)) = true := h7
        simpa using h7
      conv => whnf
      exact ⟨⟨rfl, none, _, _, _, rfl, fail fun k e h _ _ _ => h7' h⟩⟩
    have h7' : c = ((a + 1 + Tw.sizes l : Nat) : Int) := by
      replace h7 : (c != ((a + 1 + Tw.sizes l : Nat) : Int)) = false := h7
      simpa using h7
    subst h7'
    generalize hnx : a + 1 + Tw.sizes l = nx at *
    conv => whnf
    refine ⟨⟨⟨N, nx, false, f, hN, by omega, hp⟩, (show N.length - nx < N.length - a by omega)⟩, rfl, ?_⟩
    rintro _ _ ⟨rfl, o, next, deep, ok, rfl, gr⟩
    replace gr : GrowR N nx false f o next deep ok := gr
    have hok : o = none → ok = false := fun h => by
      cases ok with
      | false => rfl
      | true => obtain ⟨x, d, h1, _⟩ := gr.yes rfl; rw [h] at h1; cases h1
    rcases o with _ | ⟨us, is⟩
    · obtain rfl := hok rfl
      conv => whnf
      repeat ((first | refine rc_i rfl ?_ | refine rc_i (fun _ => rfl) ?_); conv => whnf)
      exact ⟨⟨rfl, none, _, _, _, rfl, fail fun k e _ k2 k3 _ => gr.no rfl k e k3 k2⟩⟩
    obtain ⟨f, rfl⟩ : ∃ q, f = q + 1 := ⟨f - 1, by have := gr.fuel (by simp); omega⟩
    cases ok with
    | false =>
      conv => whnf
      repeat ((first | refine rc_i rfl ?_ | refine rc_i (fun _ => rfl) ?_); conv => whnf)
      exact ⟨⟨rfl, none, _, _, _, rfl, fail fun k e _ k2 k3 _ => gr.no rfl k e k3 k2⟩⟩
    | true =>
    obtain ⟨x, d, h8, hx, hd, hxf, rfl, rfl⟩ := gr.yes rfl
    cases h8
    have more : (0 < l.length → d = dd) → (0 < l.length → keys[l.length - 1]? = some (Tw.mk us is).least) → KidsTo N a ⟨[], keys, kids⟩ (l ++ [.mk us is]) d := fun h1 h2 =>
      hK.snoc (by rw [hnx]; exact hc) (by rw [hnx]; exact hxf) hx h1 h2
    have uniq : ∀ k e, Fit true N nx k → Shp false e k → k = .mk us is ∧ e = d := fun k e h1 h2 => by
      have := Fit.uniq k _ nx h1 hxf
      subst this
      exact ⟨rfl, by rw [← h2.deep, ← hx.deep]⟩
    have hsz : a + 1 + Tw.sizes (l ++ [.mk us is]) = nx + (Tw.mk us is).size := by rw [Tw.sizes_app, ← hnx]; simp [Tw.sizes]; omega
    have back : ∀ {s' : Sl} {h' : Hp}, KidsTo N a ⟨[], keys, kids⟩ (l ++ [.mk us is]) d →
        Le [(160, 160), (544, 544), (545, 545), (546, 546), (576, 576), (2160, 16000), (0, 0), (1, 1)] (S0 (l.length + 1) (nx + (Tw.mk us is).size) d) (H0 (l ++ [.mk us is])) s' h' →
        ∃ m' ρ s'' h'', m' < kids.length - l.length ∧ Le ρ s'' h'' s' h' ∧ ∃ (l : List Tw) (dd : Nat), l.length ≤ kids.length ∧ KidsTo N a ⟨[], keys, kids⟩ l dd ∧ dd ≤ f + 1 ∧ m' = kids.length - l.length ∧ s'' = S0 l.length (a + 1 + Tw.sizes l) dd ∧ h'' = H0 l := fun h hle =>
      ⟨kids.length - (l.length + 1), _, _, _, by omega, hle, l ++ [.mk us is], d, by simp; omega, h, hd, by simp, by rw [hsz]; simp, rfl⟩
    conv => whnf
    repeat ((first | refine rc_i rfl ?_ | refine rc_i (fun _ => rfl) ?_); conv => whnf)
    refine br2 (fun h9 => ?_) (fun h9 => ?_)
    · have h9' : 0 < l.length := by have := of_decide_eq_true h9; omega
      conv => whnf
      repeat ((first | refine rc_i rfl ?_ | refine rc_i (fun _ => rfl) ?_); conv => whnf)
      refine br2 (fun h10 => ?_) (fun h10 => ?_)
      · have h10' : d ≠ dd := by
          replace h10 : ((d : Int) != (dd : Int)) = true := h10
          simp at h10; omega
        conv => whnf
        repeat ((first | refine rc_i rfl ?_ | refine rc_i (fun _ => rfl) ?_); conv => whnf)
        exact ⟨⟨rfl, none, _, _, _, rfl, fail fun k e _ k2 k3 k4 => h10' (by rw [← (uniq k e k2 k3).2]; exact (k4 h9').1)⟩⟩
      have h10' : d = dd := by
        replace h10 : ((d : Int) != (dd : Int)) = false := h10
        simp at h10; omega
      obtain ⟨z, hz⟩ := getL (l := keys) (j := l.length - 1) (by omega)
      have hw1 : IntKind.i64.wrap ((l.length : Int) - 1) = ((l.length - 1 : Nat) : Int) := by rw [w64 (by omega) (by omega)]; omega
      conv => whnf
      refine ⟨(ixE hw1 hz).1, (ixE hw1 hz).2, ?_⟩
      conv => whnf
      refine ex2 _ (nthE hw1 hz) ?_
      conv => whnf
      refine ⟨⟨f + 1, .mk us is, false, d, hx, hd⟩, rfl, ?_⟩
      rintro _ _ ⟨rfl, rfl⟩
      conv => whnf
      repeat (refine rc_i (by (conv => whnf); first | rfl | exact ⟨(ixE hw1 hz).1, (ixE hw1 hz).2, rfl⟩ | exact ex2 _ (nthE hw1 hz) rfl) ?_; conv => whnf)
      refine br2 (fun h11 => ?_) (fun h11 => ?_)
      · have h11' : z ≠ (Tw.mk us is).least := by
          replace h11 : (!strEq z (Tw.mk us is).least) = true := h11
          simpa [strEq_no] using h11
        conv => whnf
        exact ⟨⟨rfl, none, _, _, _, rfl, fail fun k e _ k2 k3 k4 => h11' (by rw [← (uniq k e k2 k3).1]; have := (k4 h9').2; rw [hz] at this; exact Option.some.inj this)⟩⟩
      · have h11' : z = (Tw.mk us is).least := by
          replace h11 : (!strEq z (Tw.mk us is).least) = false := h11
          simpa [strEq_iff] using h11
        subst h11'
        conv => whnf
        refine ⟨[.mk us is], rfl, ?_, ?_⟩
        · show l.length + 1 ≤ 4294967296; omega
        conv => whnf
        exact back (more (fun _ => h10') (fun _ => hz)) ⟨rfl, ⟨incI hi hk, rfl, rfl, rfl, rfl, rfl, rfl, rfl, trivial⟩, rfl, rfl, rfl, rfl, rfl, rfl, rfl, rfl, trivial⟩
    · have h9' : ¬ 0 < l.length := by have := of_decide_eq_false h9; omega
      conv => whnf
      repeat ((first | refine rc_i rfl ?_ | refine rc_i (fun _ => rfl) ?_); conv => whnf)
      refine ⟨[.mk us is], rfl, ?_, ?_⟩
      · show l.length + 1 ≤ 4294967296; omega
      conv => whnf
      exact back (more (fun h => absurd h h9') (fun h => absurd h h9')) ⟨rfl, ⟨incI hi hk, rfl, rfl, rfl, rfl, rfl, rfl, rfl, trivial⟩, rfl, rfl, rfl, rfl, rfl, rfl, rfl, rfl, trivial⟩
  · have hi : l.length = kids.length := by have := of_decide_eq_false h6; omega
    have hfitl : Fit true N a (.mk [] l) := by
      simp only [Fit]
      refine ⟨⟨_, hn, rfl, ?_, fun _ => ?_⟩, hK.fit⟩
      · have := hK.kids
        rw [hi, List.take_length] at this
        exact this
      · show keys = (l.drop 1).map Tw.least
        apply List.ext_getElem?
        intro j
        rw [List.getElem?_map, List.getElem?_drop]
        rcases Nat.lt_or_ge (1 + j) l.length with h8 | h8
        · obtain ⟨q, hq⟩ := getL (l := l) (j := 1 + j) h8
          have := hK.keys (1 + j) q (by omega) hq
          rw [show 1 + j - 1 = j by omega] at this
          rw [hq]; exact this
        · rw [List.getElem?_eq_none (by omega), List.getElem?_eq_none (by omega)]; rfl
    have hdl : dd ≤ 1048576 := by
      obtain ⟨q, hq⟩ := getL (l := l) (j := 0) (by omega)
      have h8 := (hK.fit.get hq).le
      have h9 := (hK.shp q (List.mem_of_getElem? hq)).deep
      have := q.deep_le
      omega
    have hwd : IntKind.i64.wrap ((dd : Int) + 1) = ((dd + 1 : Nat) : Int) := by rw [w64 (by omega) (by omega)]; omega
    conv => whnf
    refine ⟨2, RngX, RngX.ds, fun _ => rfl, ?_⟩
    conv => whnf
    refine ⟨⟨rfl, some (.mk [] l), _, _, _, rfl, ?_⟩⟩
    show GrowR N a root (f + 1) _ ((a + 1 + Tw.sizes l : Nat) : Int) (IntKind.i64.wrap ((dd : Int) + 1)) true
    refine ⟨fun _ => by omega, fun _ => ⟨_, dd + 1, rfl, .node (by omega) (by omega) hK.shp, by omega, hfitl, ?_, hwd⟩, fun h => by cases h⟩
    simp only [Tw.size]; rw [Nat.add_assoc]
theorem grow_ok : FnOk Tryz.prog 94 cGrow := fn_rec (fun g => g.N.length - g.at_) fun n hs x hx => fnX_at tab_ok (SOk.cons hs (SOk.cons gh_ok (SOk.cons copyPairs_ok (SOk.cons within_ok (SOk.cons least_ok SOk.nil))))) mixed (fn := Tryz.f94) (code := body Tryz.f94) ⟨Tryz.func94, rfl, by kernel_rfl, by kernel_rfl, by kernel_rfl, by kernel_rfl⟩ (ev_grow n x hx)
end Go.Vm
namespace Go.Vm
open Go.Proofs
set_option maxRecDepth 100000
set_option linter.unusedVariables false
set_option linter.unusedSimpArgs false

/-! The root -/
mutual
theorem Shp.pairs4 : ∀ {b : Bool} {d : Nat} {x : Tw}, Shp b d x → x.all.length ≤ 4 * x.size
  | b, d, .mk ps ks, h => by
    cases h with
    | leaf h1 h2 => simp [Tw.all, Tw.alls, Tw.size, Tw.sizes]; exact h2
    | node h1 h2 h3 =>
      have := Shp.pairs4s ks h3
      simp only [Tw.all, List.append_nil, Tw.size]; omega
theorem Shp.pairs4s : ∀ {d : Nat} (ks : List Tw), (∀ k, k ∈ ks → Shp false d k) → (Tw.alls ks).length ≤ 4 * Tw.sizes ks
  | d, [], h => by simp [Tw.alls]
  | d, k :: ks, h => by
    have h1 := Shp.pairs4 (h k (by simp))
    have h2 := Shp.pairs4s ks (fun q hq => h q (by simp [hq]))
    simp only [Tw.alls, Tw.sizes, List.length_append]; omega
end
structure TreeX where
  N : List NodeX
  f : Nat
  hf : N.length ≤ f
  hN : N.length ≤ 1048576
  hp : ∀ n ∈ N, n.ps.length ≤ 1048576
def treeD (N : List NodeX) : D := .box [.row 3 NodeX.ds N]
/-- What a tree's root is: told by nodes enough levels deep. -/
structure RootR (N : List NodeX) (f : Nat) (o : Option Tw) (deep : Int) (ok : Bool) : Prop where
  fuel : o ≠ none → 1 ≤ f
  yes : ok = true → Vo o ∧ N = layO o ∧ deep = (deepO o : Int) ∧ deepO o ≤ f
  no : ok = false → ¬ TreeP N ∧ o = none
def cRoot : Con := relC TreeX [(.rd, false)] [false, false, false] (fun t => [[treeD t.N]]) (fun t r => ∃ o deep ok, r = [optE t.f o, [.lf (.int .i64 deep)], [.lf (.bool ok)]] ∧ RootR t.N t.f o deep ok)
theorem ev_root : ∀ x, evFnX tab [(94, cGrow), (52, cAll), (95, cPairsOk)] cRoot Tryz.f48 (body Tryz.f48) x := by
  rintro ⟨N, f, hf, hN, hp⟩
  replace hf : N.length ≤ f := hf
  replace hN : N.length ≤ 1048576 := hN
  replace hp : ∀ n ∈ N, n.ps.length ≤ 1048576 := hp
  conv => whnf
  intro _
  conv => whnf
  refine br2 (fun h1 => ?_) (fun h1 => ?_)
  · have h1' : N = [] := by
      replace h1 : ((N.length : Int) == 0) = true := h1
      exact List.eq_nil_of_length_eq_zero (by simpa using h1)
    subst h1'
    conv => whnf
    exact ⟨⟨rfl, none, 0, true, rfl, fun h => absurd rfl h, fun _ => ⟨⟨trivial, by simp [allO], fun p hp => by simp [allO] at hp, by simp [allO, Srt]⟩, rfl, rfl, Nat.zero_le _⟩, fun h => by cases h⟩⟩
  have h1' : N ≠ [] := by
    replace h1 : ((N.length : Int) == 0) = false := h1
    rintro rfl; simp at h1
  have hpos : 0 < N.length := List.length_pos_iff.2 h1'
  have bad : (∀ x d, Shp true d x → Fit true N 0 x → x.size = N.length → PairsOkP x.all → False) → ¬ TreeP N := by
    rintro h ⟨o, ho, rfl⟩
    cases o with
    | none => exact h1' rfl
    | some x =>
      obtain ⟨d, hd⟩ := ho.shp
      obtain ⟨e1, e2⟩ := fit_all.2 (show x.lay 0 = x.lay 0 from rfl)
      exact h x d hd e1 e2 ho.ok
  conv => whnf
  refine ⟨⟨N, 0, true, f, hN, hf, hp⟩, rfl, ?_⟩
  rintro _ _ ⟨rfl, o, next, deep, ok, rfl, gr⟩
  replace gr : GrowR N 0 true f o next deep ok := gr
  have hok : o = none → ok = false := fun h => by
    cases ok with
    | false => rfl
    | true => obtain ⟨x, d, h1, _⟩ := gr.yes rfl; rw [h] at h1; cases h1
  obtain ⟨f, rfl⟩ : ∃ q, f = q + 1 := ⟨f - 1, by omega⟩
  rcases o with _ | ⟨us, is⟩
  · obtain rfl := hok rfl
    conv => whnf
    exact ⟨⟨rfl, none, _, _, rfl, fun h => absurd rfl h, fun h => (by cases h), fun _ => ⟨bad fun x d h1 h2 _ _ => gr.no rfl x d h1 h2, rfl⟩⟩⟩
  cases ok with
  | false =>
    conv => whnf
    exact ⟨⟨rfl, none, _, _, rfl, fun h => absurd rfl h, fun h => (by cases h), fun _ => ⟨bad fun x d h1 h2 _ _ => gr.no rfl x d h1 h2, rfl⟩⟩⟩
  | true =>
  obtain ⟨x, d, h8, hx, hd, hxf, rfl, rfl⟩ := gr.yes rfl
  cases h8
  have uniq : ∀ y, Fit true N 0 y → y = .mk us is := fun y h => Fit.uniq y _ 0 h hxf
  conv => whnf
  intro _
  conv => whnf
  refine br2 (fun h2 => ?_) (fun h2 => ?_)
  · have h2' : 0 + (Tw.mk us is).size ≠ N.length := by
      replace h2 : (((0 + (Tw.mk us is).size : Nat) : Int) != (N.length : Int)) = true := h2
      simp at h2; omega
    conv => whnf
    exact ⟨⟨rfl, none, _, _, rfl, fun h => absurd rfl h, fun h => (by cases h), fun _ => ⟨bad fun x d h1 h3 h4 _ => h2' (by rw [← uniq x h3, Nat.zero_add]; exact h4), rfl⟩⟩⟩
  have h2' : (Tw.mk us is).size = N.length := by
    replace h2 : (((0 + (Tw.mk us is).size : Nat) : Int) != (N.length : Int)) = false := h2
    simp at h2; omega
  conv => whnf
  have h4 := hx.pairs4
  refine ⟨2, RngX, RngX.ds, fun _ => rfl, ?_⟩
  conv => whnf
  refine ⟨⟨⟨f + 1, .mk us is, true, d, hx, hd⟩, [], by show 0 + (Tw.mk us is).all.length ≤ 4294967296; omega⟩, rfl, ?_⟩
  rintro _ _ ⟨rfl, rfl⟩
  conv => whnf
  refine ⟨(Tw.mk us is).all, rfl, ?_⟩
  rintro _ _ ⟨rfl, b, rfl, e⟩
  conv => whnf
  replace e : b = true ↔ PairsOkP (Tw.mk us is).all := e
  refine br2 (fun h5 => ?_) (fun h5 => ?_)
  · have h5' : ¬ PairsOkP (Tw.mk us is).all := fun h => by rw [e.2 h] at h5; cases h5
    conv => whnf
    exact ⟨⟨rfl, none, _, _, rfl, fun h => absurd rfl h, fun h => (by cases h), fun _ => ⟨bad fun x d h1 h3 _ h4 => h5' (by rw [← uniq x h3]; exact h4), rfl⟩⟩⟩
  · have h5' : PairsOkP (Tw.mk us is).all := e.1 (by cases b <;> first | rfl | cases h5)
    conv => whnf
    refine ⟨⟨rfl, some (.mk us is), _, _, rfl, fun _ => Nat.le_add_left 1 f, fun _ => ⟨⟨⟨d, hx⟩, h5'⟩, fit_all.1 ⟨hxf, h2'⟩, ?_, ?_⟩, fun h => by cases h⟩⟩
    · show (d : Int) = ((Tw.mk us is).deep : Int); rw [hx.deep]
    · show (Tw.mk us is).deep ≤ f + 1; rw [hx.deep]; exact hd
theorem root_ok : FnOk Tryz.prog 48 cRoot := fnOk_of fun x => fnX_at tab_ok (SOk.cons grow_ok (SOk.cons all_ok (SOk.cons iPairsOk_ok SOk.nil))) mixed (fn := Tryz.f48) (code := body Tryz.f48) ⟨Tryz.func48, rfl, by kernel_rfl, by kernel_rfl, by kernel_rfl, by kernel_rfl⟩ (ev_root x)
/-- What a tree is called right. -/
def cTreeOk : Con := relC TreeX [(.rd, true)] [false] (fun t => [[.row 3 NodeX.ds t.N]]) (fun t r => ∃ b : Bool, r = [[.lf (.bool b)]] ∧ (b = true ↔ TreeP t.N))
structure PrsX where
  o : Option Tw
  f : Nat
  hf : deepO o ≤ f
  h : ShpO o
  h1 : o ≠ none → 1 ≤ f
  hl : (allO o).length ≤ 4294967296
theorem ev_pairs : ∀ x, evFnX tab [(52, cAll)] (pureC PrsX [(.rd, false)] [false] (fun p => [optE p.f p.o]) (fun p => [[.row 2 RngX.ds (allO p.o)]])) Tryz.f73 (body Tryz.f73) x := by
  rintro ⟨o, f, hf, h, h1, hl⟩
  rcases o with _ | ⟨us, is⟩
  · conv => whnf
    refine ⟨2, RngX, RngX.ds, fun _ => rfl, ?_⟩
    conv => whnf
    exact ⟨⟨rfl, rfl⟩⟩
  obtain ⟨f, rfl⟩ : ∃ q, f = q + 1 := ⟨f - 1, by have := h1 (by simp); omega⟩
  obtain ⟨d, hd⟩ := h
  conv => whnf
  refine ⟨2, RngX, RngX.ds, fun _ => rfl, ?_⟩
  conv => whnf
  refine ⟨⟨⟨f + 1, .mk us is, true, d, hd, by rw [← hd.deep]; exact hf⟩, [], by show 0 + (Tw.mk us is).all.length ≤ 4294967296; rw [Nat.zero_add]; exact hl⟩, rfl, ?_⟩
  rintro _ _ ⟨rfl, rfl⟩
  conv => whnf
  exact ⟨⟨rfl, rfl⟩⟩
theorem pairs_ok : FnOk Tryz.prog 73 (pureC PrsX [(.rd, false)] [false] (fun p => [optE p.f p.o]) (fun p => [[.row 2 RngX.ds (allO p.o)]])) := fnOk_of fun x => fnX_at tab_ok (SOk.cons all_ok SOk.nil) mixed (fn := Tryz.f73) (code := body Tryz.f73) ⟨Tryz.func73, rfl, by kernel_rfl, by kernel_rfl, by kernel_rfl, by kernel_rfl⟩ (ev_pairs x)
/-- All pairs of a tree; none where it is not right. -/
structure AllR (N : List NodeX) (l : List RngX) : Prop where
  yes : ∀ o, Vo o → N = layO o → l = allO o
  no : ¬ TreeP N → l = []
def cTreeAll : Con := relC TreeX [(.rd, true)] [false] (fun t => [[.row 3 NodeX.ds t.N]]) (fun t r => ∃ l, r = [[.row 2 RngX.ds l]] ∧ AllR t.N l)
theorem ev_iTreeAll : ∀ x, evFnX tab [(48, cRoot), (73, (pureC PrsX [(.rd, false)] [false] (fun p => [optE p.f p.o]) (fun p => [[.row 2 RngX.ds (allO p.o)]])))] cTreeAll Tryz.f32 (body Tryz.f32) x := by
  rintro ⟨N, f, hf, hN, hp⟩
  conv => whnf
  refine ⟨⟨N, N.length + 1, Nat.le_succ _, hN, hp⟩, rfl, ?_⟩
  rintro _ _ ⟨rfl, o, deep, ok, rfl, rr⟩
  replace rr : RootR N (N.length + 1) o deep ok := rr
  cases ok with
  | false =>
    obtain ⟨h1, rfl⟩ := rr.no rfl
    conv => whnf
    refine ⟨2, RngX, RngX.ds, fun _ => rfl, ?_⟩
    conv => whnf
    exact ⟨⟨rfl, [], rfl, fun o ho e => absurd ⟨o, ho, e⟩ h1, fun _ => rfl⟩⟩
  | true =>
    obtain ⟨h1, h2, h3, h4⟩ := rr.yes rfl
    have hl := h1.ok.len
    rcases o with _ | ⟨us, is⟩
    all_goals
      conv => whnf
      first | refine ⟨⟨none, N.length + 1, h4, h1.shp, rr.fuel, by omega⟩, rfl, ?_⟩ | refine ⟨⟨some (.mk us is), N.length + 1, h4, h1.shp, rr.fuel, by omega⟩, rfl, ?_⟩
      rintro _ _ ⟨rfl, rfl⟩
      conv => whnf
      refine ⟨⟨rfl, _, rfl, fun o' ho' e => ?_, fun h => absurd ⟨_, h1, h2⟩ h⟩⟩
      rw [← layO_inj (h2.symm.trans e)]; rfl
theorem iTreeAll_ok : FnOk Tryz.prog 32 cTreeAll := fnOk_of fun x => fnX_at tab_ok (SOk.cons root_ok (SOk.cons pairs_ok SOk.nil)) mixed (fn := Tryz.f32) (code := body Tryz.f32) ⟨Tryz.func32, rfl, by kernel_rfl, by kernel_rfl, by kernel_rfl, by kernel_rfl⟩ (ev_iTreeAll x)
end Go.Vm
namespace Go.Vm
open Go.Proofs
set_option maxRecDepth 100000
set_option linter.unusedVariables false
set_option linter.unusedSimpArgs false

theorem ev_sKeyOk : ∀ x, evFnX tab [] cKeyOk Tryz.f137 (body Tryz.f137) x := by
  intro k
  repeat' ((conv => whnf); refine br2 (fun h => ?_) (fun h => ?_))
  all_goals (conv => whnf)
  all_goals refine ⟨⟨rfl, ?_⟩⟩
  · show _ = [[D.lf (.bool (keyOkB k))]]
    have h1 := of_decide_eq_true h
    unfold keyOkB
    rw [show decide (1 ≤ k.size) = true from decide_eq_true (by omega), Bool.true_and]
    congr 4
    exact decide_eq_decide.2 (by omega)
  · show _ = [[D.lf (.bool (keyOkB k))]]
    have h1 := of_decide_eq_false h
    unfold keyOkB
    rw [show decide (1 ≤ k.size) = false from decide_eq_false (by omega), Bool.false_and]
theorem sKeyOk_ok : FnOk Tryz.prog 137 cKeyOk := fnOk_of fun x => fnX_at tab_ok (SOk.nil) mixed (fn := Tryz.f137) (code := body Tryz.f137) ⟨Tryz.func137, rfl, by kernel_rfl, by kernel_rfl, by kernel_rfl, by kernel_rfl⟩ (ev_sKeyOk x)
end Go.Vm
namespace Go.Vm
open Go.Proofs
set_option maxRecDepth 100000
set_option linter.unusedVariables false
set_option linter.unusedSimpArgs false

/-! A sub: a leaf's pairs or a branch's kids, told n levels deep -/
def subE : Nat → Tw → List D
  | 0, _ => [.dead, .dead, .dead]
  | n + 1, .mk ps ks => [.lf (.bool ks.isEmpty), .row 2 RngX.ds ps, .row 3 (subE n) ks]
theorem subE_len (n : Nat) (x : Tw) : (subE n x).length = 3 := by cases n <;> cases x <;> rfl
theorem ev_sValOk : ∀ x, evFnX tab [] (cS1 valOkB) Tryz.f138 (body Tryz.f138) x := by
  intro s
  conv => whnf
  refine ⟨⟨rfl, ?_⟩⟩
  show _ = [[D.lf (.bool (valOkB s))]]
  unfold valOkB
  congr 4
  exact decide_eq_decide.2 (by omega)
theorem sValOk_ok : FnOk Tryz.prog 138 (cS1 valOkB) := fnOk_of fun x => fnX_at tab_ok (SOk.nil) mixed (fn := Tryz.f138) (code := body Tryz.f138) ⟨Tryz.func138, rfl, by kernel_rfl, by kernel_rfl, by kernel_rfl, by kernel_rfl⟩ (ev_sValOk x)
theorem ev_sPairsOk : ∀ x, evFnX tab [(137, cKeyOk), (138, (cS1 valOkB))] cPairsOk Tryz.f114 (body Tryz.f114) x := by
  intro (l : List RngX)
  conv => whnf
  intro hl
  replace hl : l.length ≤ 9223372036854775807 := hl
  conv => whnf
  refine br2 (fun h1 => ?_) (fun h1 => ?_)
  · have h1' : 200 < l.length := by
      replace h1 : decide ((l.length : Int) > 200) = true := h1
      have := of_decide_eq_true h1; omega
    conv => whnf
    exact ⟨⟨rfl, false, rfl, fun h => (by cases h), fun h => absurd h.len (by omega)⟩⟩
  have h1' : l.length ≤ 200 := by
    replace h1 : decide ((l.length : Int) > 200) = false := h1
    have := of_decide_eq_false h1; omega
  have fin : ∀ {b : Bool}, (b = true ↔ (∀ p ∈ l, kvOkB p = true) ∧ Srt l) → (b = true ↔ PairsOkP l) := fun h =>
    h.trans ⟨fun h => ⟨h1', h.1, h.2⟩, fun h => ⟨h.ok, h.srt⟩⟩
  conv => whnf
  intro _
  conv => whnf
  let S0 : Nat → Sl := fun i => [(10, .lf (.int .i64 i)), (9, .lf (.int .i64 l.length)), (8, .sl 0 none), (0, .sl 0 none)]
  let H0 : Hp := [(0, some (.row .lent 2 RngX.ds l))]
  refine ⟨fun m s h => ∃ i : Nat, i ≤ l.length ∧ RiseTo l i ∧ m = l.length - i ∧ s = S0 i ∧ h = H0, l.length, [(0, 0)], S0 0, H0, ⟨rfl, ⟨rfl, rfl, rfl, rfl, trivial⟩, rfl, trivial⟩, ⟨0, by omega, fun j y h => by omega, by omega, rfl, rfl⟩, ?_⟩
  rintro m _ _ ⟨i, g1, g2, rfl, rfl, rfl⟩
  conv => whnf
  refine br2 (fun h5 => ?_) (fun h5 => ?_)
  · have hi : i < l.length := by have := of_decide_eq_true h5; omega
    obtain ⟨y, hy⟩ := getL hi
    have no : ¬ (kvOkB y = true ∧ ∀ z, 0 < i → l[i - 1]? = some z → strLt z.lo y.lo = true) → (false = true ↔ (∀ p ∈ l, kvOkB p = true) ∧ Srt l) := fun h =>
      ⟨fun e => (by cases e), fun e => absurd (riseTo_all.2 e i y hi hy) h⟩
    have yes : (kvOkB y = true ∧ ∀ z, 0 < i → l[i - 1]? = some z → strLt z.lo y.lo = true) → RiseTo l (i + 1) := fun h j z hj hz => by
      rcases Nat.lt_or_ge j i with h1 | h1
      · exact g2 j z h1 hz
      · obtain rfl : j = i := by omega
        rw [hy] at hz; cases hz; exact h
    have kv : kvOkB y = (keyOkB y.lo && valOkB y.hi) := rfl
    have hw1 : 0 < i → IntKind.i64.wrap ((i : Int) - 1) = ((i - 1 : Nat) : Int) := fun h => by rw [w64 (by omega) (by omega)]; omega
    have back : ∀ {s' : Sl} {h' : Hp}, RiseTo l (i + 1) → Le [(0, 0)] (S0 (i + 1)) H0 s' h' → ∃ m' ρ s'' h'', m' < l.length - i ∧ Le ρ s'' h'' s' h' ∧ ∃ i, i ≤ l.length ∧ RiseTo l i ∧ m' = l.length - i ∧ s'' = S0 i ∧ h'' = H0 := fun h hle =>
      ⟨l.length - (i + 1), [(0, 0)], S0 (i + 1), H0, by omega, hle, i + 1, by omega, h, rfl, rfl, rfl⟩
    conv => whnf
    refine ⟨Int.natCast_nonneg _, ltI hy, ?_⟩
    conv => whnf
    refine ex2 _ (nthI hy) ?_
    conv => whnf
    refine ⟨y.lo, rfl, ?_⟩
    rintro _ _ ⟨rfl, rfl⟩
    conv => whnf
    repeat ((first | refine rc_i rfl ?_ | refine rc_i (fun _ => rfl) ?_); conv => whnf)
    refine br2 (fun h6 => ?_) (fun h6 => ?_)
    · have h6' : keyOkB y.lo = false := by
        replace h6 : (!keyOkB y.lo) = true := h6
        simpa using h6
      conv => whnf
      repeat ((first | refine rc_i rfl ?_ | refine rc_i (fun _ => rfl) ?_); conv => whnf)
      exact ⟨⟨rfl, false, rfl, fin (no fun h => by rw [kv, h6'] at h; cases h.1)⟩⟩
    have h6' : keyOkB y.lo = true := by
      replace h6 : (!keyOkB y.lo) = false := h6
      simpa using h6
    conv => whnf
    refine ⟨y.hi, rfl, ?_⟩
    rintro _ _ ⟨rfl, rfl⟩
    conv => whnf
    repeat ((first | refine rc_i rfl ?_ | refine rc_i (fun _ => rfl) ?_); conv => whnf)
    refine br2 (fun h7 => ?_) (fun h7 => ?_)
    · have h7' : valOkB y.hi = false := by
        replace h7 : (!valOkB y.hi) = true := h7
        simpa using h7
      conv => whnf
      repeat ((first | refine rc_i rfl ?_ | refine rc_i (fun _ => rfl) ?_); conv => whnf)
      exact ⟨⟨rfl, false, rfl, fin (no fun h => by rw [kv, h6', h7'] at h; cases h.1)⟩⟩
    have h7' : kvOkB y = true := by
      replace h7 : (!valOkB y.hi) = false := h7
      rw [kv, h6']; simpa using h7
    conv => whnf
    repeat ((first | refine rc_i rfl ?_ | refine rc_i (fun _ => rfl) ?_); conv => whnf)
    refine br2 (fun h8 => ?_) (fun h8 => ?_)
    · have h8' : 0 < i := by have := of_decide_eq_true h8; omega
      obtain ⟨z, hz⟩ := getL (l := l) (j := i - 1) (by omega)
      conv => whnf
      refine ⟨(ixE (hw1 h8') hz).1, (ixE (hw1 h8') hz).2, ?_⟩
      conv => whnf
      refine ex2 _ (nthE (hw1 h8') hz) ?_
      conv => whnf
      repeat (refine rc_i (by (conv => whnf); first | rfl | exact ⟨(ixE (hw1 h8') hz).1, (ixE (hw1 h8') hz).2, rfl⟩ | exact ex2 _ (nthE (hw1 h8') hz) rfl) ?_; conv => whnf)
      refine br2 (fun h9 => ?_) (fun h9 => ?_)
      · have h9' : strLt z.lo y.lo = false := by
          replace h9 : (!strLt z.lo y.lo) = true := h9
          simpa using h9
        conv => whnf
        exact ⟨⟨rfl, false, rfl, fin (no fun h => by rw [h.2 z h8' hz] at h9'; cases h9')⟩⟩
      · have h9' : strLt z.lo y.lo = true := by
          replace h9 : (!strLt z.lo y.lo) = false := h9
          simpa using h9
        conv => whnf
        exact back (yes ⟨h7', fun z' _ hz' => by rw [hz] at hz'; cases hz'; exact h9'⟩) ⟨rfl, ⟨incI hi hl, rfl, rfl, rfl, trivial⟩, rfl, trivial⟩
    · have h8' : ¬ 0 < i := by have := of_decide_eq_false h8; omega
      conv => whnf
      exact back (yes ⟨h7', fun z' h0 _ => absurd h0 h8'⟩) ⟨rfl, ⟨incI hi hl, rfl, rfl, rfl, trivial⟩, rfl, trivial⟩
  · have hi : i = l.length := by have := of_decide_eq_false h5; omega
    subst hi
    conv => whnf
    exact ⟨⟨rfl, true, rfl, fin ⟨fun _ => riseTo_all.1 g2, fun _ => rfl⟩⟩⟩
theorem sPairsOk_ok : FnOk Tryz.prog 114 cPairsOk := fnOk_of fun x => fnX_at tab_ok (SOk.cons sKeyOk_ok (SOk.cons sValOk_ok SOk.nil)) mixed (fn := Tryz.f114) (code := body Tryz.f114) ⟨Tryz.func114, rfl, by kernel_rfl, by kernel_rfl, by kernel_rfl, by kernel_rfl⟩ (ev_sPairsOk x)
theorem ev_sLeast : ∀ n x, (fun t => t.d) x = n → evFnX tab [(166, (pureC TwX [(.rd, true)] [false] (fun t => [subE t.n t.x]) (fun t => [[.lf (.string t.x.least)]])).below (fun t => t.d) n)] (pureC TwX [(.rd, true)] [false] (fun t => [subE t.n t.x]) (fun t => [[.lf (.string t.x.least)]])) Tryz.f166 (body Tryz.f166) x := by
  rintro N ⟨n, ⟨ps, ks⟩, b, d, h, hn⟩ rfl
  have hpos := h.pos
  obtain ⟨n, rfl⟩ : ∃ m, n = m + 1 := ⟨n - 1, by omega⟩
  cases h with
  | leaf h1 h2 =>
    obtain ⟨y, hy⟩ : ∃ y, ps[0]? = some y := getL (by cases b <;> simp at h1 <;> omega)
    conv => whnf
    intro _
    conv => whnf
    refine br2 (fun h3 => ?_) (fun h3 => ?_)
    · conv => whnf
      refine ⟨by decide, ltI hy, ?_⟩
      conv => whnf
      refine ex2 _ (nthI hy) ?_
      conv => whnf
      refine ⟨⟨rfl, ?_⟩⟩
      show [[D.lf (.string y.lo)]] = [[D.lf (.string (headKey ps))]]
      cases ps with
      | nil => simp at hy
      | cons c cs => cases hy; rfl
    · exfalso
      have h3' := of_decide_eq_false h3
      have := (List.getElem?_eq_some_iff.1 hy).1
      omega
  | node h1 h2 h3 =>
    obtain ⟨k, ks, rfl⟩ : ∃ k r, ks = k :: r := by cases ks with | nil => simp at h1 | cons k r => exact ⟨k, r, rfl⟩
    rename_i d
    have hks := h3 k (by simp)
    have hp := hks.pos
    obtain ⟨n, rfl⟩ : ∃ m, n = m + 1 := ⟨n - 1, by omega⟩
    obtain ⟨us, is⟩ := k
    conv => whnf
    intro _
    conv => whnf
    refine br2 (fun h4 => ?_) (fun h4 => ?_)
    · conv => whnf
      refine ⟨by decide, (show (0 : Int) < (((Tw.mk us is :: ks).length : Nat) : Int) by simp), ?_⟩
      conv => whnf
      refine ⟨⟨⟨n + 1, .mk us is, false, d, hks, by omega⟩, Nat.lt_succ_self _⟩, rfl, ?_⟩
      rintro _ _ ⟨rfl, rfl⟩
      conv => whnf
      exact ⟨⟨rfl, rfl⟩⟩
    · exfalso
      have h4' := of_decide_eq_false h4
      replace h4' : ¬ (((Tw.mk us is :: ks).length : Nat) : Int) > 0 := h4'
      simp at h4'
theorem sLeast_ok : FnOk Tryz.prog 166 (pureC TwX [(.rd, true)] [false] (fun t => [subE t.n t.x]) (fun t => [[.lf (.string t.x.least)]])) := fn_rec (fun t => t.d) fun n hs x hx => fnX_at tab_ok (SOk.cons hs (SOk.nil)) mixed (fn := Tryz.f166) (code := body Tryz.f166) ⟨Tryz.func166, rfl, by kernel_rfl, by kernel_rfl, by kernel_rfl, by kernel_rfl⟩ (ev_sLeast n x hx)
end Go.Vm
namespace Go.Vm
open Go.Proofs
set_option maxRecDepth 100000
set_option linter.unusedVariables false
set_option linter.unusedSimpArgs false

structure LayX where
  t : TwX
  N : List NodeX
  hl : N.length + t.x.size ≤ 4194304
def cSLay : Con := pureC LayX [(.take, false), (.rd, true)] [false] (fun a => [[.row 3 NodeX.ds a.N], subE a.t.n a.t.x]) (fun a => [[.row 3 NodeX.ds (a.N ++ a.t.x.lay a.N.length)]])
theorem Tw.lays_take {ks : List Tw} {i a : Nat} {k : Tw} (h : ks[i]? = some k) : Tw.lays (ks.take (i + 1)) a = Tw.lays (ks.take i) a ++ k.lay (a + Tw.sizes (ks.take i)) := by
  rw [List.take_add_one, h, Tw.lays_app]; simp [Tw.lays]
theorem kidsAt_take {ks : List Tw} {i a : Nat} {k : Tw} (h : ks[i]? = some k) : kidsAt (ks.take (i + 1)) a = kidsAt (ks.take i) a ++ [((a + Tw.sizes (ks.take i) : Nat) : Int)] := by
  rw [List.take_add_one, h, kidsAt_app]; rfl
theorem Tw.sizes_take {ks : List Tw} {i : Nat} {k : Tw} (h : ks[i]? = some k) : Tw.sizes (ks.take (i + 1)) = Tw.sizes (ks.take i) + k.size ∧ Tw.sizes (ks.take i) + k.size ≤ Tw.sizes ks := by
  constructor
  · rw [List.take_add_one, h, Tw.sizes_app]; simp [Tw.sizes]
  · conv => rhs; rw [at_split h]
    rw [Tw.sizes_app]; simp [Tw.sizes]
theorem leasts_take {ks : List Tw} {i : Nat} {k : Tw} (h : ks[i]? = some k) (hi : 0 < i) : ((ks.take (i + 1)).drop 1).map Tw.least = ((ks.take i).drop 1).map Tw.least ++ [k.least] := by
  rw [List.take_add_one, h, List.drop_append_of_le_length (by rw [List.length_take]; have := (List.getElem?_eq_some_iff.1 h).1; omega), List.map_append]; rfl
theorem leasts_take0 {ks : List Tw} : ((ks.take (0 + 1)).drop 1).map Tw.least = [] := by cases ks <;> simp
theorem ev_sLay : ∀ n x, (fun a => a.t.d) x = n → evFnX tab [(115, cSLay.below (fun a => a.t.d) n), (1000007, cGh), (166, (pureC TwX [(.rd, true)] [false] (fun t => [subE t.n t.x]) (fun t => [[.lf (.string t.x.least)]])))] cSLay Tryz.f115 (body Tryz.f115) x := by
  rintro M ⟨⟨n, x, b, d, h, hn⟩, N, hl⟩ rfl
  have hpos := h.pos
  obtain ⟨n, rfl⟩ : ∃ m, n = m + 1 := ⟨n - 1, by omega⟩
  obtain ⟨ps, ks⟩ := x
  replace hl : N.length + (1 + Tw.sizes ks) ≤ 4194304 := hl
  replace hn : d ≤ n + 1 := hn
  have hps : ps.length ≤ 4 := by cases h <;> simp_all
  have hk4 : ks.length ≤ 4 := by cases h <;> simp_all
  have hkid : ∀ k ∈ ks, ∃ d', d' < d ∧ Shp false d' k := by
    intro k hk
    cases h with
    | leaf => simp at hk
    | node k1 k2 k3 => exact ⟨_, Nat.lt_succ_self _, k3 k hk⟩
  conv => whnf
  intro _
  conv => whnf
  refine ⟨2, RngX, RngX.ds, fun _ => rfl, ?_⟩
  conv => whnf
  refine ⟨1, ByteArray, strE1, fun _ => rfl, ?_⟩
  conv => whnf
  refine ⟨1, Int, intE1, fun _ => rfl, ?_⟩
  conv => whnf
  refine ⟨[⟨[], [], []⟩], rfl, ?_, ?_⟩
  · show N.length + 1 ≤ 4294967296; omega
  conv => whnf
  refine br2 (fun h3 => ?_) (fun h3 => ?_)
  · obtain rfl : ks = [] := by cases ks with | nil => rfl | cons k r => cases h3
    conv => whnf
    refine ⟨true, ?_⟩
    conv => whnf
    refine ⟨RngX, RngX.ds, [], fun _ => rfl, rfl, ?_⟩
    conv => whnf
    refine ⟨fun _ => rfl, ps, rfl, ?_, ?_⟩
    · show 0 + ps.length ≤ 4294967296; omega
    conv => whnf
    have hy : (N ++ [(⟨[], [], []⟩ : NodeX)])[N.length]? = some ⟨[], [], []⟩ := by simp
    refine ⟨Int.natCast_nonneg _, ltI hy, ?_⟩
    conv => whnf
    refine ex2 _ (nthI hy) ?_
    conv => whnf
    refine ⟨⟨ps, [], []⟩, rfl, ?_⟩
    conv => whnf
    refine ⟨⟨rfl, ?_⟩⟩
    show [[D.row 3 NodeX.ds ((N ++ [(⟨[], [], []⟩ : NodeX)]).set N.length ⟨ps, [], []⟩)]] = [[D.row 3 NodeX.ds (N ++ (Tw.mk ps []).lay N.length)]]
    simp [Tw.lay, Tw.lays, kidsAt]
  cases h with
  | leaf => exact absurd h3 (by simp)
  | node k1 k2 k3 =>
  rename_i d
  conv => whnf
  refine ⟨[.nlc 96 0 1 1000, .nlc 96 0 2 1001], ?_⟩
  conv => whnf
  refine ⟨1, ByteArray, strE1, fun _ => rfl, ?_⟩
  conv => whnf
  refine ⟨1, Int, intE1, fun _ => rfl, ?_⟩
  conv => whnf
  intro _
  conv => whnf
  let S0 : Nat → Sl := fun i => [(29, .lf (.int .i64 i)), (28, .lf (.int .i64 ks.length)), (27, .sl 17 none), (6, .pt 96 0 0), (3, .pt 48 0 0), (5, .lf (.int .i64 N.length)), (0, .sl 208 none)]
  let L : Nat → List NodeX := fun i => N ++ [⟨[], [], []⟩] ++ Tw.lays (ks.take i) (N.length + 1)
  let H0 : Nat → Hp := fun i => [(208, some (.row .own 3 NodeX.ds (L i))), (96, some (.arr true 3 [[.lf (.slice none 0 0), .sl 16000 none, .sl 16016 none]])),
    (16000, some (.row .own 1 strE1 (((ks.take i).drop 1).map Tw.least))), (16016, some (.row .own 1 intE1 (kidsAt (ks.take i) (N.length + 1)))),
    (48, some (.arr true 3 [[.lf (.bool ks.isEmpty), .sl 16 none, .sl 17 none]])), (16, some (.row .lent 2 RngX.ds [])), (17, some (.row .lent 3 (subE n) ks))]
  have hL : ∀ i, (L i).length = N.length + 1 + Tw.sizes (ks.take i) := fun i => by simp [L, Tw.lays_len]; omega
  refine ⟨fun m s h => ∃ i : Nat, i ≤ ks.length ∧ m = ks.length - i ∧ s = S0 i ∧ h = H0 i, ks.length, [(208, 208), (96, 96), (16000, 16000), (16016, 16016), (48, 48), (16, 16), (17, 17)], S0 0, H0 0,
    ⟨rfl, ⟨rfl, rfl, rfl, rfl, rfl, rfl, rfl, trivial⟩, ?_, rfl, rfl, rfl, rfl, rfl, rfl, trivial⟩, ⟨0, by omega, rfl, rfl, rfl⟩, ?_⟩
  · show _ = some (Ob.row Kind.own 3 NodeX.ds (L 0))
    simp [L, Tw.lays]; rfl
  rintro m _ _ ⟨i, g1, rfl, rfl, rfl⟩
  conv => whnf
  refine br2 (fun h5 => ?_) (fun h5 => ?_)
  · have hi : i < ks.length := by have := of_decide_eq_true h5; omega
    obtain ⟨k, hk⟩ := getL hi
    obtain ⟨d', hd, hks⟩ := hkid k (List.mem_of_getElem? hk)
    have hp := hks.pos
    obtain ⟨z1, z2⟩ := Tw.sizes_take hk
    have hL1 : L (i + 1) = L i ++ k.lay (L i).length := by
      rw [hL]; simp only [L, Tw.lays_take hk, List.append_assoc]
    have hK1 : kidsAt (ks.take (i + 1)) (N.length + 1) = kidsAt (ks.take i) (N.length + 1) ++ [((L i).length : Int)] := by rw [kidsAt_take hk, hL]
    have hlen := hL i
    obtain ⟨us, is⟩ := k
    obtain ⟨n', rfl⟩ : ∃ q, n = q + 1 := ⟨n - 1, by omega⟩
    conv => whnf
    intro _
    conv => whnf
    refine ⟨[((L i).length : Int)], rfl, ?_, ?_⟩
    · show (kidsAt (ks.take i) (N.length + 1)).length + 1 ≤ 4294967296
      rw [kidsAt_len, List.length_take]; omega
    conv => whnf
    have step : ∀ {s' : Sl} {h' : Hp} (ρ : List (Nat × Nat)), Le ρ (S0 (i + 1)) (H0 (i + 1)) s' h' → ∃ m' ρ s'' h'', m' < ks.length - i ∧ Le ρ s'' h'' s' h' ∧ ∃ i, i ≤ ks.length ∧ m' = ks.length - i ∧ s'' = S0 i ∧ h'' = H0 i := fun ρ hle =>
      ⟨ks.length - (i + 1), ρ, _, _, by omega, hle, i + 1, by omega, rfl, rfl, rfl⟩
    have hw := incI hi (show ks.length ≤ 9223372036854775807 by omega)
    refine br2 (fun h6 => ?_) (fun h6 => ?_)
    · have h6' : 0 < i := by have := of_decide_eq_true h6; omega
      conv => whnf
      refine ⟨Int.natCast_nonneg _, ltI hk, ?_⟩
      conv => whnf
      refine ex2 _ (nthI hk) ?_
      conv => whnf
      refine ⟨⟨n' + 1, .mk us is, false, d', hks, by omega⟩, rfl, ?_⟩
      rintro _ _ ⟨rfl, rfl⟩
      conv => whnf
      repeat ((first | refine rc_i rfl ?_ | refine rc_i (fun _ => rfl) ?_); conv => whnf)
      refine ⟨[(Tw.mk us is).least], rfl, ?_, ?_⟩
      · show (((ks.take i).drop 1).map Tw.least).length + 1 ≤ 4294967296
        simp; omega
      conv => whnf
      refine ⟨Int.natCast_nonneg _, ltI hk, ?_⟩
      conv => whnf
      refine ex2 _ (nthI hk) ?_
      conv => whnf
      refine ⟨⟨⟨⟨n' + 1, .mk us is, false, d', hks, by omega⟩, L i, (show (L i).length + (Tw.mk us is).size ≤ 4194304 by omega)⟩, hd⟩, rfl, ?_⟩
      rintro _ _ ⟨rfl, rfl⟩
      conv => whnf
      refine step [(928, 208), (96, 96), (800, 16000), (592, 16016), (48, 48), (16, 16), (17, 17)] ⟨rfl, ⟨hw, rfl, rfl, rfl, rfl, rfl, rfl, trivial⟩, ?_, rfl, ?_, ?_, rfl, rfl, rfl, trivial⟩
      · show _ = some (Ob.row Kind.own 3 NodeX.ds (L (i + 1)))
        rw [hL1]; rfl
      · show _ = some (Ob.row Kind.own 1 strE1 (((ks.take (i + 1)).drop 1).map Tw.least))
        rw [leasts_take hk h6']; rfl
      · show _ = some (Ob.row Kind.own 1 intE1 (kidsAt (ks.take (i + 1)) (N.length + 1)))
        rw [hK1]; rfl
    · have h6' : i = 0 := by have := of_decide_eq_false h6; omega
      subst h6'
      conv => whnf
      refine ⟨Int.natCast_nonneg _, ltI hk, ?_⟩
      conv => whnf
      refine ex2 _ (nthI hk) ?_
      conv => whnf
      refine ⟨⟨⟨⟨n' + 1, .mk us is, false, d', hks, by omega⟩, L 0, (show (L 0).length + (Tw.mk us is).size ≤ 4194304 by omega)⟩, hd⟩, rfl, ?_⟩
      rintro _ _ ⟨rfl, rfl⟩
      conv => whnf
      refine step [(928, 208), (96, 96), (16000, 16000), (592, 16016), (48, 48), (16, 16), (17, 17)] ⟨rfl, ⟨hw, rfl, rfl, rfl, rfl, rfl, rfl, trivial⟩, ?_, rfl, ?_, ?_, rfl, rfl, rfl, trivial⟩
      · show _ = some (Ob.row Kind.own 3 NodeX.ds (L (0 + 1)))
        rw [hL1]; rfl
      · show _ = some (Ob.row Kind.own 1 strE1 (((ks.take (0 + 1)).drop 1).map Tw.least))
        rw [leasts_take0]; rfl
      · show _ = some (Ob.row Kind.own 1 intE1 (kidsAt (ks.take (0 + 1)) (N.length + 1)))
        rw [hK1]; rfl
  · have hi : i = ks.length := by have := of_decide_eq_false h5; omega
    subst hi
    have hy : (L ks.length)[N.length]? = some ⟨[], [], []⟩ := by simp [L]
    conv => whnf
    refine ⟨Int.natCast_nonneg _, ltI hy, ?_⟩
    conv => whnf
    refine ex2 _ (nthI hy) ?_
    conv => whnf
    refine ⟨2, RngX, RngX.ds, fun _ => rfl, ?_⟩
    conv => whnf
    refine ⟨⟨[], (ks.drop 1).map Tw.least, kidsAt ks (N.length + 1)⟩, ?_, ?_⟩
    · show [D.row 2 RngX.ds [], .row 1 strE1 ((ks.drop 1).map Tw.least), .row 1 intE1 (kidsAt ks (N.length + 1))] = [D.row 2 RngX.ds [], .row 1 strE1 (((ks.take ks.length).drop 1).map Tw.least), .row 1 intE1 (kidsAt (ks.take ks.length) (N.length + 1))]
      rw [List.take_length]
    conv => whnf
    refine ⟨⟨rfl, ?_⟩⟩
    show [[D.row 3 NodeX.ds ((L ks.length).set N.length ⟨[], (ks.drop 1).map Tw.least, kidsAt ks (N.length + 1)⟩)]] = [[D.row 3 NodeX.ds (N ++ (Tw.mk [] ks).lay N.length)]]
    simp [L, Tw.lay]
theorem sLay_ok : FnOk Tryz.prog 115 cSLay := fn_rec (fun a => a.t.d) fun n hs x hx => fnX_at tab_ok (SOk.cons hs (SOk.cons gh_ok (SOk.cons sLeast_ok SOk.nil))) mixed (fn := Tryz.f115) (code := body Tryz.f115) ⟨Tryz.func115, rfl, by kernel_rfl, by kernel_rfl, by kernel_rfl, by kernel_rfl⟩ (ev_sLay n x hx)
theorem deeps_mem {k : Tw} : ∀ {ks : List Tw}, k ∈ ks → k.deep ≤ Tw.deeps ks
  | j :: ks, h => by
    simp only [Tw.deeps]
    rcases List.mem_cons.1 h with rfl | h
    · omega
    · have := deeps_mem h; omega
def PrsOk (x : Tw) : Prop := (∃ ps, x = .mk ps [] ∧ ps.length ≤ 4) ∨ ∃ ks, x = .mk [] ks ∧ ks.length ≤ 4 ∧ ∀ k ∈ ks, ∃ b d, Shp b d k
theorem Shp.prs {b : Bool} {d : Nat} {x : Tw} (h : Shp b d x) : PrsOk x := by
  cases h with
  | leaf h1 h2 => exact .inl ⟨_, rfl, h2⟩
  | node h1 h2 h3 => exact .inr ⟨_, rfl, h2, fun k hk => ⟨_, _, h3 k hk⟩⟩
theorem prs_of {x : Tw} (h : x = .mk [] [] ∨ ∃ b d, Shp b d x) : PrsOk x := by
  rcases h with rfl | ⟨b, d, h⟩
  · exact .inl ⟨[], rfl, by simp⟩
  · exact h.prs
structure PrsS where
  n : Nat
  x : Tw
  h : PrsOk x
  hn : x.deep ≤ n
  hl : x.all.length ≤ 4294967296
theorem ev_sPairs : ∀ n x, (fun a => a.x.deep) x = n → evFnX tab [(67, (pureC PrsS [(.rd, true)] [false] (fun p => [subE p.n p.x]) (fun p => [[.row 2 RngX.ds p.x.all]])).below (fun a => a.x.deep) n)] (pureC PrsS [(.rd, true)] [false] (fun p => [subE p.n p.x]) (fun p => [[.row 2 RngX.ds p.x.all]])) Tryz.f67 (body Tryz.f67) x := by
  rintro N ⟨n, x, h, hn, hl⟩ rfl
  have hpos := x.deep_pos
  obtain ⟨n, rfl⟩ : ∃ m, n = m + 1 := ⟨n - 1, by omega⟩
  obtain ⟨ps, ks⟩ := x
  replace hl : (Tw.alls ks ++ ps).length ≤ 4294967296 := hl
  rw [List.length_append] at hl
  replace hn : 1 + Tw.deeps ks ≤ n + 1 := hn
  have hk4 : ks.length ≤ 4 := by
    rcases h with ⟨_, h, _⟩ | ⟨_, h, h4, _⟩
    · cases h; simp
    · cases h; exact h4
  have hps : ps.length ≤ 4 := by
    rcases h with ⟨_, h, h4⟩ | ⟨_, h, _⟩
    · cases h; exact h4
    · cases h; simp
  have hkid : ∀ k ∈ ks, ∃ b d', Shp b d' k := by
    intro k hk
    rcases h with ⟨_, h, _⟩ | ⟨_, h, _, h3⟩
    · cases h; simp at hk
    · cases h; exact h3 k hk
  have hord : Tw.alls ks ++ ps = ps ++ Tw.alls ks := by
    rcases h with ⟨_, h, _⟩ | ⟨_, h, _⟩
    · cases h; simp [Tw.alls]
    · cases h; simp
  conv => whnf
  refine ⟨true, ?_⟩
  conv => whnf
  refine ⟨RngX, RngX.ds, [], fun _ => rfl, rfl, ?_⟩
  conv => whnf
  refine ⟨fun _ => rfl, ps, rfl, ?_, ?_⟩
  · show 0 + ps.length ≤ 4294967296; omega
  conv => whnf
  intro _
  conv => whnf
  let S0 : Nat → Sl := fun i => [(12, .lf (.int .i64 i)), (11, .lf (.int .i64 ks.length)), (1, .pt 16 0 0), (3, .sl 128 none)]
  let H0 : Nat → Hp := fun i => [(128, some (.row .own 2 RngX.ds (ps ++ Tw.alls (ks.take i)))), (16, some (.arr true 3 [[.lf (.bool ks.isEmpty), .sl 0 none, .sl 1 none]])), (0, some (.row .lent 2 RngX.ds ps)), (1, some (.row .lent 3 (subE n) ks))]
  refine ⟨fun m s h => ∃ i : Nat, i ≤ ks.length ∧ m = ks.length - i ∧ s = S0 i ∧ h = H0 i, ks.length, [(128, 128), (16, 16), (0, 0), (1, 1)], S0 0, H0 0,
    ⟨rfl, ⟨rfl, rfl, rfl, rfl, trivial⟩, ?_, rfl, rfl, rfl, trivial⟩, ⟨0, by omega, rfl, rfl, rfl⟩, ?_⟩
  · show _ = some (Ob.row Kind.own 2 RngX.ds (ps ++ Tw.alls (ks.take 0)))
    simp [Tw.alls]; rfl
  rintro m _ _ ⟨i, g1, rfl, rfl, rfl⟩
  conv => whnf
  refine br2 (fun h5 => ?_) (fun h5 => ?_)
  · have hi : i < ks.length := by have := of_decide_eq_true h5; omega
    obtain ⟨k, hk⟩ := getL hi
    obtain ⟨b', d', hks⟩ := hkid k (List.mem_of_getElem? hk)
    have hkd := deeps_mem (List.mem_of_getElem? hk)
    obtain ⟨us, is⟩ := k
    have hp := (Tw.mk us is).deep_pos
    obtain ⟨n', rfl⟩ : ∃ q, n = q + 1 := ⟨n - 1, by omega⟩
    have hal := Tw.alls_le hk
    conv => whnf
    refine ⟨Int.natCast_nonneg _, ltI hk, ?_⟩
    conv => whnf
    refine ex2 _ (nthI hk) ?_
    conv => whnf
    refine ⟨⟨⟨n' + 1, .mk us is, hks.prs, by omega, by show (Tw.mk us is).all.length ≤ 4294967296; omega⟩, (show (Tw.mk us is).deep < 1 + Tw.deeps ks by omega)⟩, rfl, ?_⟩
    rintro _ _ ⟨rfl, rfl⟩
    conv => whnf
    refine ⟨fun _ => rfl, (Tw.mk us is).all, rfl, ?_, ?_⟩
    · show (ps ++ Tw.alls (ks.take i)).length + (Tw.mk us is).all.length ≤ 4294967296
      rw [List.length_append]; omega
    conv => whnf
    refine ⟨ks.length - (i + 1), [(352, 128), (16, 16), (0, 0), (1, 1)], S0 (i + 1), H0 (i + 1), by omega, ⟨rfl, ⟨incI hi (by omega), rfl, rfl, rfl, trivial⟩, ?_, rfl, rfl, rfl, trivial⟩, i + 1, by omega, rfl, rfl, rfl⟩
    show _ = some (Ob.row Kind.own 2 RngX.ds (ps ++ Tw.alls (ks.take (i + 1))))
    rw [Tw.alls_take hk, ← List.append_assoc]; rfl
  · have hi : i = ks.length := by have := of_decide_eq_false h5; omega
    subst hi
    conv => whnf
    refine ⟨⟨rfl, ?_⟩⟩
    show [[D.row 2 RngX.ds (ps ++ Tw.alls (ks.take ks.length))]] = [[D.row 2 RngX.ds (Tw.alls ks ++ ps)]]
    rw [List.take_length, hord]
theorem sPairs_ok : FnOk Tryz.prog 67 (pureC PrsS [(.rd, true)] [false] (fun p => [subE p.n p.x]) (fun p => [[.row 2 RngX.ds p.x.all]])) := fn_rec (fun a => a.x.deep) fun n hs x hx => fnX_at tab_ok (SOk.cons hs (SOk.nil)) mixed (fn := Tryz.f67) (code := body Tryz.f67) ⟨Tryz.func67, rfl, by kernel_rfl, by kernel_rfl, by kernel_rfl, by kernel_rfl⟩ (ev_sPairs n x hx)
end Go.Vm
