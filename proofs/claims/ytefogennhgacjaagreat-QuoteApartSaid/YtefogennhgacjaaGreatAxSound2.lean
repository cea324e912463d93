/- AX: the operations are those of the model: slices. -/
import Derived.Test.YtefogennhgacjaaGreatAxSound
namespace Go.Ax
set_option linter.unusedSimpArgs false
set_option linter.unusedVariables false
open Go

section
variable {P : Program} {B : Nat} {w0 : World} {m : Map}

/-- Bounds that may be missing. -/
inductive VRO (m : Map) : Option Value → Option Value → Prop
  | none : VRO m none none
  | some {v v' : Value} (h : VR m v v') : VRO m (some v) (some v')

theorem bnd_spec {x x' : Option Value} {d lim n : Nat} (hx : VRO m x x') (h : bnd x d lim = some n) :
    (x' = none ∧ n = d) ∨ ∃ k z, x' = some (.int k z) ∧ 0 ≤ z ∧ z ≤ lim ∧ n = z.toNat := by
  cases hx with
  | none => simp [bnd] at h; exact .inl ⟨rfl, h.symm⟩
  | some hv =>
    right
    cases hv <;> simp only [bnd] at h
    case int k z =>
      split at h
      · rename_i hb
        simp at hb h
        exact ⟨k, z, rfl, hb.1, hb.2, h.symm⟩
      · cases h
    all_goals cases h

theorem run_sliceBound {k : IntKind} {z : Int} {lim : Nat} {code : BoundsCode} {w : World} (h0 : 0 ≤ z) (h1 : z ≤ lim) : (Instr.sliceBound (.int k z) lim code).run P w = .ok z.toNat w := by
  simp [Instr.sliceBound, asIntOf, h0, h1]

theorem run_sliceBounds {len cap l h c : Nat} {lo hi mx lo' hi' mx' : Option Value} (hlo : VRO m lo lo') (hhi : VRO m hi hi') (hmx : VRO m mx mx') (hno : ∀ v, mx = some v → hi ≠ none)
    (h1 : bnd mx cap cap = some c) (h2 : bnd hi len c = some h) (h3 : bnd lo 0 h = some l) (w : World) :
    (Instr.sliceBounds true len cap lo' hi' mx').run P w = .ok (l, h, c) w := by
  have e1 := bnd_spec hmx h1
  have e2 := bnd_spec hhi h2
  have e3 := bnd_spec hlo h3
  unfold Instr.sliceBounds
  rcases e1 with ⟨rfl, rfl⟩ | ⟨k1, z1, rfl, a1, b1, rfl⟩
  · rcases e2 with ⟨rfl, rfl⟩ | ⟨k2, z2, rfl, a2, b2, rfl⟩
    · rcases e3 with ⟨rfl, rfl⟩ | ⟨k3, z3, rfl, a3, b3, rfl⟩
      · simp
      · simp [run_sliceBound a3 b3]
    · rcases e3 with ⟨rfl, rfl⟩ | ⟨k3, z3, rfl, a3, b3, rfl⟩
      · simp [run_sliceBound a2 b2]
      · simp [run_sliceBound a2 b2, run_sliceBound a3 b3]
  · have hm1 : ∃ v, mx = some v := by cases hmx; exact ⟨_, rfl⟩
    obtain ⟨v, hv⟩ := hm1
    have := hno v hv
    rcases e2 with ⟨rfl, rfl⟩ | ⟨k2, z2, rfl, a2, b2, rfl⟩
    · cases hhi; exact absurd rfl this
    · rcases e3 with ⟨rfl, rfl⟩ | ⟨k3, z3, rfl, a3, b3, rfl⟩
      · simp [run_sliceBound a1 b1, run_sliceBound a2 b2]
      · simp [run_sliceBound a1 b1, run_sliceBound a2 b2, run_sliceBound a3 b3]

theorem bnd_le {x : Option Value} {d lim n : Nat} (h : bnd x d lim = some n) (hd : d ≤ lim) : n ≤ lim := by
  cases x with
  | none => simp [bnd] at h; omega
  | some v =>
    cases v <;> simp only [bnd] at h
    case int k z =>
      split at h
      · rename_i hb; simp at hb h; omega
      · cases h
    all_goals cases h

theorem bnd_lift {x : Option Value} {d lim lim' n : Nat} (h : bnd x d lim = some n) (hl : lim ≤ lim') : bnd x d lim' = some n := by
  cases x with
  | none => simpa [bnd] using h
  | some v =>
    cases v <;> simp only [bnd] at h
    case int k z =>
      split at h
      · rename_i hb
        simp only [Bool.and_eq_true, decide_eq_true_eq] at hb
        have : (decide (0 ≤ z) && decide (z ≤ (lim' : Int))) = true := by
          simp only [Bool.and_eq_true, decide_eq_true_eq]; exact ⟨hb.1, by omega⟩
        simp only [bnd, this]
        exact h
      · cases h
    all_goals cases h

theorem elemOfSlice_spec {t e : TypeId} (h : elemOfSlice P t = some e) (w : World) : (underlying t).run P w = .ok (.slice e) w := by
  unfold elemOfSlice at h
  split at h
  · rename_i x hx; cases h; exact pv_run hx w
  · cases h

theorem run_slice {t e : TypeId} {sz l h c len cap : Nat} {a : Option Addr} {lo hi mx : Option Value} {w : World} (ht : (underlying t).run P w = .ok (.slice e) w) (hs : (sizeOf e).run P w = .ok sz w)
    (hb : (Instr.sliceBounds true len cap lo hi mx).run P w = .ok (l, h, c) w) :
    (Instr.sliceAt t (.slice a len cap) lo hi mx).run P w = .ok (.slice (if c = l then a else a.map (·.add (l * sz))) (h - l) (c - l)) w := by
  simp [Instr.sliceAt, Instr.slice, ht, hs, hb]

theorem slo_cut {i o z b f t cap l h : Nat} {a : Addr} (hm : m i = some (b, f, t)) (hc : f + o + cap * z = t) (hz : 0 < z) (ha : cap = 0 ∨ a = ⟨b, f + o, none⟩) (h1 : l ≤ h) (h2 : h ≤ cap) :
    VR m (openSl i (o + l * z) z (h - l)) (.slice (if cap = l then some a else (some a).map (·.add (l * z))) (h - l) (cap - l)) := by
  have e : f + (o + l * z) + (cap - l) * z = t := by
    rw [Nat.sub_mul]
    have : l * z ≤ cap * z := Nat.mul_le_mul_right z (by omega)
    omega
  by_cases hl : cap = l
  · rw [if_pos hl]
    exact .slo hm e (by omega) hz (.inl (by omega))
  · rw [if_neg hl]
    refine .slo hm e (by omega) hz (.inr ?_)
    rcases ha with h | h
    · omega
    · subst h
      show (⟨b, f + o, none⟩ : Addr).add (l * z) = _
      rw [add_addr, Nat.add_assoc]

theorem sound_slice {t e : TypeId} {sz : Nat} {x x' r : Value} {lo hi mx lo' hi' mx' : Option Value} (he : elemOfSlice P t = some e) (hs : pv P (sizeOf e) = some sz) (hx : VR m x x')
    (hlo : VRO m lo lo') (hhi : VRO m hi hi') (hmx : VRO m mx mx') (h : aSlice sz x lo hi mx = some r) (w : World) :
    ∃ r', (Instr.sliceAt t x' lo' hi' mx').run P w = .ok r' w ∧ VR m r r' := by
  have ht := elemOfSlice_spec he w
  have hs := pv_run hs w
  have hno : (∀ v, mx = some v → hi ≠ none) ∧ aSlice0 sz x lo hi mx = some r := by
    unfold aSlice at h
    split at h
    · cases h
    · rename_i hne; exact ⟨fun v hv hh => hne v hv hh, h⟩
  clear h
  obtain ⟨hno, h⟩ := hno
  cases hx <;> simp only [aSlice0] at h
  case nils =>
    split at h
    · cases h
    · rename_i c h1
      split at h
      · cases h
      · rename_i hh h2
        split at h
        · cases h
        · rename_i l h3
          cases h
          have := run_slice (a := none) ht hs (run_sliceBounds hlo hhi hmx hno h1 h2 h3 w)
          have z1 := bnd_le h1 (Nat.le_refl _)
          have z2 := bnd_le h2 (by omega)
          have z3 := bnd_le h3 (by omega)
          have e1 : hh - l = 0 := by omega
          have e2 : c - l = 0 := by omega
          rw [e1, e2] at this
          refine ⟨_, this, ?_⟩
          have : (if c = l then none else (none : Option Addr).map (·.add (l * sz))) = none := by split <;> rfl
          rw [this]
          exact .nils
  case slx i o b f t' len cap hm =>
    split at h
    · cases h
    · rename_i c h1
      split at h
      · cases h
      · rename_i hh h2
        split at h
        · cases h
        · rename_i l h3
          cases h
          have := run_slice (a := some ⟨b, f + o, none⟩) ht hs (run_sliceBounds hlo hhi hmx hno h1 h2 h3 w)
          refine ⟨_, this, ?_⟩
          cases hb : Nat.beq c l with
          | true =>
            have := Nat.eq_of_beq_eq_true hb
            rw [if_pos this]
            exact .slx hm
          | false =>
            have := Nat.ne_of_beq_eq_false hb
            rw [if_neg this]
            simp only [Option.map_some, add_addr, Nat.add_assoc]
            exact .slx hm
  case slz i o a =>
    split at h
    · cases h
    · rename_i c h1
      split at h
      · cases h
      · rename_i hh h2
        split at h
        · cases h
        · rename_i l h3
          cases h
          have := run_slice (a := some a) ht hs (run_sliceBounds hlo hhi hmx hno h1 h2 h3 w)
          have z1 := bnd_le h1 (Nat.le_refl _)
          have z2 := bnd_le h2 (by omega)
          have z3 := bnd_le h3 (by omega)
          have e0 : c = l := by omega
          have e1 : hh - l = 0 := by omega
          have e2 : c - l = 0 := by omega
          rw [e1, e2, if_pos e0] at this
          refine ⟨_, this, ?_⟩
          rw [e1, e2]
          exact .slz
  case slo i o z b f t' len cap a hm hc hl hz ha =>
    split at h
    · cases h
    · rename_i hzz
      have hzz := Nat.eq_of_beq_eq_true hzz
      subst hzz
      split at h
      · cases hmx
        split at h
        · cases h
        · rename_i hh h2
          split at h
          · cases h
          · rename_i l h3
            cases h
            have z2 := bnd_le h2 (Nat.le_refl _)
            have z3 := bnd_le h3 (by omega)
            have := run_slice (a := some a) ht hs (run_sliceBounds (cap := cap) hlo hhi .none (by intro v hv; cases hv) rfl (bnd_lift h2 hl) h3 w)
            exact ⟨_, this, slo_cut hm hc hz ha z3 (by omega)⟩
      · rename_i vm
        split at h
        · cases h
        · rename_i c h1
          split at h
          · cases h
          · rename_i hh h2
            split at h
            · cases h
            · rename_i l h3
              cases h
              have hsome : ∃ v, hi = some v := by
                cases hi with
                | none => exact absurd rfl (hno vm rfl)
                | some v => exact ⟨v, rfl⟩
              obtain ⟨vh, rfl⟩ := hsome
              have hd : ∀ d d' : Nat, bnd (some vh) d c = bnd (some vh) d' c := fun _ _ => by cases vh <;> rfl
              have hd' : ∀ d d' lim : Nat, bnd (some vm) d lim = bnd (some vm) d' lim := fun _ _ _ => by cases vm <;> rfl
              have z1 := bnd_le h1 (Nat.zero_le _)
              have z2 := bnd_le h2 (Nat.zero_le _)
              have z3 := bnd_le h3 (Nat.zero_le _)
              have := run_slice (a := some a) ht hs (run_sliceBounds (len := len) (cap := cap) hlo hhi hmx hno (by rw [hd' cap 0]; exact bnd_lift h1 hl) (by rw [hd len 0]; exact h2) h3 w)
              refine ⟨_, this, ?_⟩
              cases hb : Nat.beq c l with
              | true =>
                have e0 := Nat.eq_of_beq_eq_true hb
                rw [if_pos e0]
                have e1 : hh - l = 0 := by omega
                have e2 : c - l = 0 := by omega
                rw [e1, e2]
                exact .slz
              | false =>
                have e0 := Nat.ne_of_beq_eq_false hb
                rw [if_neg e0]
                rcases ha with ha | ha
                · omega
                · subst ha
                  simp only [Option.map_some, add_addr, Nat.add_assoc]
                  exact .slx hm
  all_goals cases h

theorem sound_sliceFar {t e : TypeId} {sz : Nat} {x x' r : Value} {lo hi lo' hi' : Option Value} {s s1 : St} (he : elemOfSlice P t = some e) (hs : pv P (sizeOf e) = some sz) (hx : VR m x x')
    (hlo : VRO m lo lo') (hhi : VRO m hi hi') (h : (aSliceFar sz x lo hi).run s = some (r, s1)) {w : World} (R : Rel B w0 m s.h w) :
    (∃ r', (Instr.sliceAt t x' lo' hi' none).run P w = .ok r' w ∧ VR m r r') ∧ s1.h = s.h ∧ s1.n = s.n := by
  have ht := elemOfSlice_spec he w
  have hs := pv_run hs w
  unfold aSliceFar at h
  split at h
  · rename_i i o z len k hz
    split at h
    · exact (run_fail h).elim
    · rename_i hb
      simp only [Bool.and_eq_true] at hb
      obtain ⟨⟨hb1, hb2⟩, hb3⟩ := hb
      have hb1 := Nat.eq_of_beq_eq_true hb1
      subst hb1
      obtain ⟨row, hrow, h⟩ := run_rd h
      cases row with
      | cells c =>
        dsimp only at h
        split at h
        · exact (run_fail h).elim
        · rename_i hc
          simp only [Bool.and_eq_true] at hc
          split at h
          · exact (run_fail h).elim
          · rename_i l hl
            obtain ⟨h1, h2⟩ := run_ret h
            subst h1 h2
            refine ⟨?_, rfl, rfl⟩
            cases hx with
            | slo hm hcap hlen hz0 ha =>
              rename_i b f t' cap a
              obtain ⟨b', f', t2, q1, q2, c', e', lo', hi', q3, q4, q5, q6, q7⟩ := R.row _ _ hrow
              rw [hm] at q1; cases q1
              have c1 := of_decide_eq_true hb3
              have c3 : o + hz.toNat * z ≤ c.length := Nat.le_of_ble_eq_true hc.2
              have c4 : hz.toNat ≤ cap := by
                have : hz.toNat * z ≤ cap * z := by omega
                exact Nat.le_of_mul_le_mul_right this hz0
              have hh : bnd (some (.int k hz)) len cap = some hz.toNat := by
                simp only [bnd]
                have : (decide (0 ≤ hz) && decide (hz ≤ (cap : Int))) = true := by
                  simp only [Bool.and_eq_true, decide_eq_true_eq]; exact ⟨c1, by omega⟩
                rw [this]
              have := run_slice (a := some a) ht hs (run_sliceBounds (mx := none) (len := len) (cap := cap) hlo hhi .none (by intro v hv; cases hv) rfl hh hl w)
              exact ⟨_, this, slo_cut hm hcap hz0 ha (bnd_le hl (Nat.zero_le _)) c4⟩
      | _ => exact (run_fail h).elim
  · exact (run_fail h).elim

end
end Go.Ax
