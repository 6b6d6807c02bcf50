/- A verified evaluator for Go code: stores as operations; copy and clear. -/
import Derived.Test.YtedffkngbjlgdaaGreatDoorVm4b
namespace Go.Vm
open Go.RowKit
set_option linter.unusedVariables false
set_option linter.unusedSimpArgs false

section
variable {P : Program} {T : Tab} {S : Cons} {C : Ctx} {E E1 : Env} {s : Sl} {h h1 : Hp} {a : Act} {w w' : World} {K : Sl → Hp → Prop} {Q : Exit → Act → World → Prop} {o : Oper} {v : Value}

theorem putK_ok {d : Option Nat} {v : Vm.V} {s : Sl} {K : Sl → Prop} (h : putK d v s K) : K (Vm.put d v s) := by rwa [putK_eq] at h

theorem ex_ok {β : Type _} {oo : Option β} {KK : β → Prop} (h : ex oo KK) : ∃ c, oo = some c ∧ KK c := by
  unfold ex at h
  split at h
  · exact ⟨_, rfl, h⟩
  · exact h.elim

theorem row_frozen {u sz : Nat} {α : Type} {enc : α → List D} {l : List α} {own : Bool} {b p : Nat} (r : Hs C w E h) (eo : lookO h u = some (.row (ownKind own) sz enc l)) (hγ : E.γ u = some (b, p)) :
    (∀ j, j < l.length * sz → (∃ y, w.cell? ⟨b, p + j, none⟩ = some y) ∧ w.frozen? ⟨b, p + j, none⟩ = false) ∧ E.F u b := by
  obtain ⟨hz, hm, h3⟩ := r.ob u _ eo
  rw [hγ] at h3
  obtain ⟨hb, vals, hv, h4⟩ := h3
  have hc : ∀ j, j < l.length * sz → ∃ y, w.cell? ⟨b, p + j, none⟩ = some y := by
    intro j hj
    obtain ⟨i, f, rfl, hi, hf⟩ := flatV_get' (vals := vals) hj
    exact ⟨_, hv i f hi hf⟩
  cases own with
  | true => obtain ⟨G, _, _, _, hF, h5⟩ := h4; exact ⟨fun j hj => ⟨hc j hj, h5 j hj⟩, (hF b).2 (.inl rfl)⟩
  | false => exact ⟨fun j hj => ⟨hc j hj, h4.2.2 j hj⟩, (h4.2.1 b).2 rfl⟩

theorem op_store {t : TypeId} {x y : Operand} (hT : TOk P T) (r : Rel C E s h a w) (hd : ∀ d, o.dst = some d → d < C.nt) (ho : o.op = .store t x y)
    (hk : wrOp T S (.store t x y) o.dst s h K) : o.wp P a w (Post C K) Q := by
  simp only [wrOp] at hk
  obtain ⟨ti, hti, hk'⟩ := ty_ok hT hk
  clear hk; have hk := hk'; clear hk'
  split at hk
  · rename_i u j f e
    obtain ⟨_, hpt⟩ := r.pt e
    have hvd : val s y ≠ .dead := by intro e; rw [e] at hk; exact hk.elim
    obtain ⟨xs, hk2, hxs, hx1, _⟩ := cells_VR (r.vr hvd) hk
    clear hk
    split at hk2
    · rename_i en
      have hn := nbeq_eq en
      have hun : (a.eval y).cells.toList.length = ti.size := by rw [← hxs.length]; exact hn
      split at hk2
      · rename_i sz els eo
        obtain ⟨b, p, hγ, hx⟩ := hpt _ eo
        simp only [Ob.sz] at hx
        obtain ⟨cs, ec, hk⟩ := ex_ok hk2
        rw [nth_eq] at ec
        obtain ⟨hk, hle⟩ := spliceK_ok _ _ _ _ (fvs_ok hk)
        obtain ⟨hk, hj⟩ := setK_ok _ _ _ _ hk
        obtain ⟨hc, hp⟩ := store_arr r hd eo hγ ec hxs hx1 hle (putK_ok hk)
        have hst := run_storeAt (P := P) hti hun hx1 (fun k hk => hc k (by omega))
        rw [← hx] at hst
        exact wp_skip' (run_store' ho hst) hp
      · rename_i k sz α enc l eo
        obtain ⟨b, p, hγ, hx⟩ := hpt _ eo
        simp only [Ob.sz] at hx
        obtain ⟨yy, ey, hk⟩ := ex_ok hk2
        rw [nth_eq] at ey
        have hj : j < l.length := by
          rcases Nat.lt_or_ge j l.length with h1 | h1
          · exact h1
          · rw [List.getElem?_eq_none h1] at ey; cases ey
        have hz : (enc yy).length = sz := (r.ob u _ eo).1 yy
        have main : ∀ own : Bool, k = ownKind own → (mvDs fuel own ((u, none) :: h) xs fun ds h' => spliceK f (enc yy) ds fun cs' => ∃ y' : α, enc y' = cs' ∧
            putK o.dst (.tup []) s fun s1 => K s1 ((u, some (.row k sz enc (l.set j y'))) :: h')) → o.wp P a w (Post C K) Q := by
          intro own hkk hk
          have hxs' : VRs w E (lookO ((u, none) :: h)) xs (a.eval y).cells.toList := VRs.mono (Shape.refl w) _ _ (fun m _ => (r.hs.drop u).2.sub m) hxs
          obtain ⟨ds, h', E', G, hk, mv, hdl, hmv, hdis⟩ := mvDs_sound fuel own E ((u, none) :: h) xs _ _ (r.hs.drop u).1 hxs' hx1 hk
          obtain ⟨hk, hle⟩ := spliceK_ok _ _ _ _ hk
          obtain ⟨y', hy', hk⟩ := hk
          have hxl := hxs.length
          have hp := store_row (us := (a.eval y).cells.toList) (ds := ds) (G := G) r hd eo hkk hγ ey (by rw [← hxl]; exact mv) (by omega) (by rw [← hxl]; exact hmv) (by rw [← hxl]; exact hdis) hle hy' (putK_ok hk)
          have hfz := (row_frozen r.hs (by rw [← hkk]; exact eo) hγ).1
          have hst := run_storeAt (P := P) hti hun hx1 (b := b) (p := p + (j * sz + f)) (fun k hk => by
            have := hfz (j * sz + (f + k)) (idx_lt hj (by omega))
            rwa [← Nat.add_assoc (j * sz), ← Nat.add_assoc] at this)
          rw [← hx] at hst
          exact wp_skip' (run_store' ho hst) hp
        cases k with
        | own => exact main true rfl hk
        | mix => exact main false rfl hk
        | ro => exact hk.elim
        | lent => exact hk.elim
      · rename_i sz α enc l q cs eo
        obtain ⟨b, p, hγ, hx⟩ := hpt _ eo
        simp only [Ob.sz] at hx
        obtain ⟨rfl, hk⟩ := hk2
        obtain ⟨hk, hle⟩ := spliceK_ok _ _ _ _ (fvs_ok hk)
        obtain ⟨hc, hp⟩ := store_foc r hd eo hγ hxs hx1 hle (putK_ok hk)
        have hst := run_storeAt (P := P) hti hun hx1 (fun k hk => hc k (by omega))
        rw [← hx] at hst
        exact wp_skip' (run_store' ho hst) hp
      · exact hk2.elim
    · exact hk2.elim
  · exact hk.elim
end
end Go.Vm
