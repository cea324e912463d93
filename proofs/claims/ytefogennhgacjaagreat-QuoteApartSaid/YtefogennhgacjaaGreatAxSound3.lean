/- AX: the operations are those of the model: append, copy, build. -/
import Derived.Test.YtefogennhgacjaaGreatAxSound2
namespace Go.Ax
set_option linter.unusedSimpArgs false
set_option linter.unusedVariables false
open Go

section
variable {P : Program} {B : Nat} {w0 : World} {m : Map}

theorem aLen_spec {x x' : Value} {n : Nat} (hx : VR m x x') (h : aLen x = some n) (w : World) : (Builtin.lenOf x').run P w = .ok n w := by
  cases hx <;> simp [aLen] at h <;> subst h <;> simp [Builtin.lenOf]

theorem VRs.bytes (m : Map) : ∀ (l : List UInt8), VRs m (l.map fun b => .int .u8 b.toNat) (l.map fun b => .int .u8 b.toNat)
  | [] => .nil
  | b :: l => .cons (.int _ _) (VRs.bytes m l)

theorem aFirst_spec {x x' : Value} {sz n : Nat} {l : List Value} {s s1 : St} {w : World} (hx : VR m x x') (h : (aFirst sz n x).run s = some (l, s1)) (R : Rel B w0 m s.h w) :
    s1.h = s.h ∧ s1.n = s.n ∧ ∃ l', (∀ w', w'.heap = w.heap → (Builtin.firstCells sz n x').run P w' = .ok ⟨l'⟩ w') ∧ VRs m l l' := by
  have key : ∀ {i o len z : Nat} {a a' : Addr} {cap cap' : Nat} {z' : Option Nat}, VR m (.slice (some ⟨i, o, z'⟩) len cap) (.slice (some a) len cap') →
      (aFirst sz n (.slice (some ⟨i, o, z'⟩) len cap)).run s = some (l, s1) → s1.h = s.h ∧ s1.n = s.n ∧ ∃ l', (∀ w', w'.heap = w.heap → (loadCells a (n * sz)).run P w' = .ok ⟨l'⟩ w') ∧ VRs m l l' := by
    intro i o len z a a' cap cap' z' hv g
    unfold aFirst at g
    split at g
    · rename_i i' o' z2 len' cap2 heq
      cases heq
      split at g
      · rename_i hle
        have hle := Nat.le_of_ble_eq_true hle
        split at g
        · rename_i h0
          have h0 := Nat.eq_of_beq_eq_true h0
          subst h0
          obtain ⟨h1, h2⟩ := run_ret g
          subst h1 h2
          exact ⟨rfl, rfl, [], by intros; simp [loadCells, loadCellsFrom], .nil⟩
        · rename_i h0
          have h0 := Nat.ne_of_beq_eq_false h0
          obtain ⟨e1, e2, c, hg, hl⟩ := run_ldCells g
          obtain ⟨b, f, t, l', q1, q2, q3⟩ := R.cells hg hl
          refine ⟨e1, e2, l', ?_, q3⟩
          have ha : a = ⟨b, f + o, none⟩ := by
            cases hv with
            | slx hm => rw [hm] at q1; cases q1; rfl
            | slz => omega
            | slo hm hc hl hz ha =>
              rw [hm] at q1; cases q1
              rcases ha with ha | ha
              · omega
              · exact ha
          rw [ha]
          exact q2 P
      · exact (run_fail g).elim
    · rename_i heq; cases heq
    · rename_i heq; cases heq
    · rename_i hne _ _; exact absurd rfl (hne _ _ _ _ _)
  cases hx
  case slx i o b f t len cap hm =>
    obtain ⟨e1, e2, l', h1, h2⟩ := key (z := 0) (a' := ⟨0, 0, none⟩) (.slx hm) h
    exact ⟨e1, e2, l', by simpa [Builtin.firstCells] using h1, h2⟩
  case slz i o a =>
    obtain ⟨e1, e2, l', h1, h2⟩ := key (z := 0) (a' := ⟨0, 0, none⟩) .slz h
    exact ⟨e1, e2, l', by simpa [Builtin.firstCells] using h1, h2⟩
  case slo i o z b f t len cap a hm hc hl hz ha =>
    obtain ⟨e1, e2, l', h1, h2⟩ := key (z := 0) (a' := ⟨0, 0, none⟩) (.slo hm hc hl hz ha) h
    exact ⟨e1, e2, l', by simpa [Builtin.firstCells] using h1, h2⟩
  case nils =>
    simp only [aFirst] at h
    split at h
    · obtain ⟨h1, h2⟩ := run_ret h
      subst h1 h2
      exact ⟨rfl, rfl, [], by intros; simp [Builtin.firstCells], .nil⟩
    · exact (run_fail h).elim
  case string q =>
    simp only [aFirst] at h
    obtain ⟨h1, h2⟩ := run_ret h
    subst h1 h2
    refine ⟨rfl, rfl, _, ?_, VRs.bytes m _⟩
    intro w' _
    simp only [Builtin.firstCells, Sem.run_pure]
    congr 1
    apply Array.ext'
    simp
  all_goals exact (run_fail h).elim

/-- Some cells behind a known row's end, written: the row is longer by them. -/
theorem Rel.extend {i b f t : Nat} (hm : m i = some (b, f, t)) (P : Program) :
    ∀ {vs vs' : List Value}, VRs m vs vs' → plains vs = true → ∀ (o k : Nat) (c : List Value) (h : T Row) (w : World), Rel B w0 m h w → h.get i = some (.cells c) → c.length = o + k → f + c.length + vs.length ≤ t →
      ∃ w', (storeCells ⟨b, f + o, none⟩ vs' k).run P w = .ok () w' ∧ Rel B w0 m (h.set i (some (.cells (c ++ vs)))) w'
  | _, _, .nil, _, o, k, c, h, w, r, hg, hl, ht => by
    refine ⟨w, by simp [storeCells], r.congr fun j => ?_⟩
    rw [T.get_set]
    split
    · rename_i e; subst e; simp [hg]
    · rfl
  | v :: vs, v' :: vs', .cons hv hvs, hp, o, k, c, h, w, r, hg, hl, ht => by
    rw [plains_cons, Bool.and_eq_true] at hp
    obtain ⟨b1, f1, t1, e1, h2, c', e, lo, hi, h3, h4, h5, h6, h7⟩ := r.row _ _ hg
    rw [hm] at e1; cases e1
    obtain ⟨p1, p2⟩ := hv.plain hp.1
    have hlt : f + (o + k) < c'.size := by rw [h4]; simp at ht; omega
    have hrun : ∀ {α : Type} (K : Sem α), (Sem.store .plain ⟨b, f + (o + k), none⟩ v' K).run P w = K.run P (w.setCell ⟨b, f + (o + k), none⟩ v') := fun K => Ax.run_store h3 (by rw [h4]; exact h5) hlt p1 p2
    have r1 : Rel B w0 m (h.set i (some (.cells (c ++ [v])))) (w.setCell ⟨b, f + (o + k), none⟩ v') := by
      refine r.turn hg rfl rfl hm (fun j hj => heap_setCell_ne _ _ _ _ hj) ((RowKit.Below.refl B w).setCell (h2.le rfl) _) ?_
      refine ⟨_, e, lo, hi, heap_setCell_at v' h3, by simp [h4], h5, by simp at ht ⊢; omega, fun j x hx => ?_⟩
      rcases Nat.lt_or_ge j c.length with hj | hj
      · rw [List.getElem?_append_left hj] at hx
        obtain ⟨x', hx', hr⟩ := h7 j x hx
        refine ⟨x', ?_, hr⟩
        rw [Array.getElem?_setIfInBounds, if_neg (by omega)]
        exact hx'
      · rw [List.getElem?_append_right hj] at hx
        have : j - c.length = 0 := by
          rcases Nat.eq_zero_or_pos (j - c.length) with h | h
          · exact h
          · rw [List.getElem?_eq_none (by simp; omega)] at hx; cases hx
        rw [this] at hx
        simp at hx
        subst hx
        refine ⟨v', ?_, hv⟩
        rw [Array.getElem?_setIfInBounds, if_pos (by omega), if_pos (by omega)]
    obtain ⟨w', hw', r2⟩ := Rel.extend hm P hvs hp.2 o (k + 1) (c ++ [v]) _ _ r1 (T.get_set_same _ _ _) (by simp; omega) (by simp at ht ⊢; omega)
    refine ⟨w', ?_, r2.congr fun j => ?_⟩
    · unfold storeCells
      simp only [store, bind, Sem.bind, add_addr]
      rw [show f + o + k = f + (o + k) from by omega]
      rw [hrun]
      simpa [Sem.run] using hw'
    · rw [T.get_set, T.get_set, T.get_set]
      split <;> simp

end
end Go.Ax
