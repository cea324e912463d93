/- AX: the operations are those of the model: what makes no memory. -/
import Derived.Test.YtefogennhgacjaaGreatAxSound4
namespace Go.Ax
set_option linter.unusedSimpArgs false
set_option linter.unusedVariables false
open Go

section
variable {P : Program} {B : Nat} {w0 : World} {m : Map}

theorem VRs.slab {l l' r : List Value} {o n : Nat} (h : VRs m l l') (hs : slab l o n = some r) : VRs m r ((l'.drop o).take n) := by
  obtain ⟨h1, h2, h3⟩ := slab_spec hs
  have hlen := h.length
  refine VRs.of_get ?_ fun j v hj => ?_
  · rw [List.length_take, List.length_drop, h1, hlen]
    rcases Nat.eq_zero_or_pos n with h0 | h0
    · omega
    · have := h3 h0; omega
  · have hjn : j < n := by
      rcases Nat.lt_or_ge j n with h | h
      · exact h
      · rw [List.getElem?_eq_none (by omega)] at hj; cases hj
    rw [h2 j hjn] at hj
    obtain ⟨v', hv', hr⟩ := h.get _ hj
    refine ⟨v', ?_, hr⟩
    rw [List.getElem?_take_of_lt hjn, List.getElem?_drop]
    exact hv'

theorem sound_part {t : TypeId} {cs cs' : List Value} {off : Nat} {v : Value} (h : VRs m cs cs') (hp : partOf P t cs off = some v) (w : World) :
    ∃ v', (part t ⟨cs'⟩ off).run P w = .ok v' w ∧ VR m v v' := by
  unfold partOf at hp
  split at hp
  · rename_i hag
    have hag := pv_run hag w
    split at hp
    · rename_i n hn
      have hn := pv_run hn w
      split at hp
      · rename_i l hl
        cases hp
        refine ⟨.agg ⟨(cs'.drop off).take n⟩, ?_, .agg (h.slab hl)⟩
        simp [part, hag, hn]
      · cases hp
    · cases hp
  · rename_i hag
    have hag := pv_run hag w
    split at hp
    · rename_i x hl
      cases hp
      obtain ⟨h1, h2, h3⟩ := slab_spec hl
      have h2 := h2 0 (by omega)
      simp at h2
      obtain ⟨v', hv', hr⟩ := h.get off h2.symm
      refine ⟨v', ?_, hr⟩
      simp [part, hag, hv']
    · cases hp
  · cases hp

theorem sound_field {t : TypeId} {x x' v : Value} {n : Nat} (hx : VR m x x') (h : aField P t x n = some v) (w : World) : ∃ v', (Instr.field t x' n).run P w = .ok v' w ∧ VR m v v' := by
  unfold aField at h
  split at h
  · rename_i fields cs hu
    have hu := pv_run hu w
    cases hx with
    | agg hl =>
      split at h
      · rename_i fd hfd
        obtain ⟨v', hv', hr⟩ := sound_part hl h w
        refine ⟨v', ?_, hr⟩
        have hfd : fields[n]? = some fd := by rw [← Array.getElem?_toList]; exact hfd
        simp [Instr.field, hu, hfd, asAgg, hv']
      · cases h
  · cases h

theorem sound_fieldAddr {t : TypeId} {x x' v : Value} {n : Nat} (hx : VR m x x') (h : aFieldAddr P t x n = some v) (w : World) : ∃ v', (Instr.fieldAt t x' n).run P w = .ok v' w ∧ VR m v v' := by
  unfold aFieldAddr at h
  split at h
  · rename_i fields i o hu
    have hu := pv_run hu w
    cases hx with
    | ptr hm =>
      split at h
      · rename_i fd hfd
        split at h
        · rename_i k hk
          have hk := pv_run hk w
          cases h
          have hfd : fields[n]? = some fd := by rw [← Array.getElem?_toList]; exact hfd
          refine ⟨_, ?_, .ptr (o := o + fd.offset) hm⟩
          simp [Instr.fieldAt, hu, hfd, Instr.sureAddr, fieldPlace, hk, add_addr, Nat.add_assoc]
        · cases h
      · cases h
  · cases h

theorem sound_indexAddr {t : TypeId} {x x' ix ix' v : Value} (hx : VR m x x') (hi : VR m ix ix') (h : aIndexAddr P t x ix = some v) (w : World) :
    ∃ v', (Instr.indexAt t x' ix').run P w = .ok v' w ∧ VR m v v' := by
  unfold aIndexAddr at h
  split at h
  · rename_i k n
    cases hi
    split at h
    · rename_i e i o sp len cap hu
      have hu := pv_run hu w
      split at h
      · rename_i sz hb hs
        have hs := pv_run hs w
        cases h
        simp only [Bool.and_eq_true, decide_eq_true_eq] at hb
        have key : ∀ {b f t' : Nat} {a : Addr} {cap' : Nat}, m i = some (b, f, t') → a = ⟨b, f + o, none⟩ →
            ∃ v', (Instr.indexAt t (.slice (some a) len cap') (.int k n)).run P w = .ok v' w ∧ VR m (.pointer (some ⟨i, o + n.toNat * sz, none⟩)) v' := by
          intro b f t' a cap' hm ha
          subst ha
          refine ⟨_, ?_, .ptr (o := o + n.toNat * sz) hm⟩
          simp [Instr.indexAt, asIntOf, hu, hb.1, hb.2, hs, add_addr, Nat.add_assoc]
        cases hx with
        | slx hm => exact key hm rfl
        | slz => omega
        | slo hm hc hl hz ha => exact key hm (ha.resolve_left (by omega))
      · cases h
    · rename_i len e i o hu
      have hu := pv_run hu w
      split at h
      · rename_i sz hb hs
        have hs := pv_run hs w
        cases h
        simp only [Bool.and_eq_true, decide_eq_true_eq] at hb
        cases hx with
        | ptr hm =>
          refine ⟨_, ?_, .ptr (o := o + n.toNat * sz) hm⟩
          simp [Instr.indexAt, asIntOf, hu, hb.1, hb.2, hs, Instr.sureAddr, add_addr, Nat.add_assoc]
      · cases h
    · cases h
  · cases h

theorem sound_index {t : TypeId} {x x' ix ix' v : Value} (hx : VR m x x') (hi : VR m ix ix') (h : aIndex P t x ix = some v) (w : World) :
    ∃ v', (Instr.index t x' ix').run P w = .ok v' w ∧ VR m v v' := by
  unfold aIndex at h
  split at h
  · rename_i k n
    cases hi
    split at h
    · rename_i len e cs hu
      have hu := pv_run hu w
      split at h
      · rename_i sz hb hs
        have hs := pv_run hs w
        simp only [Bool.and_eq_true, decide_eq_true_eq] at hb
        cases hx with
        | agg hl =>
          obtain ⟨v', hv', hr⟩ := sound_part hl h w
          refine ⟨v', ?_, hr⟩
          simp [Instr.index, asIntOf, hu, hb.1, hb.2, hs, hv']
      · cases h
    · rename_i s hu
      have hu := pv_run hu w
      cases hx
      split at h
      · rename_i b hb hs
        cases h
        have hb := of_decide_eq_true hb
        have hs : s[n.toNat]? = some b := by
          rw [List.getElem?_eq_some_iff] at hs
          obtain ⟨h1, h2⟩ := hs
          have h1' : n.toNat < s.size := by simpa using h1
          rw [getElem?_pos s n.toNat h1']
          congr 1
        refine ⟨_, ?_, .int _ _⟩
        simp [Instr.index, asIntOf, hu, hb, hs]
      · cases h
    · cases h
  · cases h

theorem aNth_spec : ∀ {l : List Value} {n : Nat} {v : Value}, aNth l n = some v → l[n]? = some v
  | [], _, _, h => by simp [aNth] at h
  | x :: l, 0, v, h => by simpa [aNth] using h
  | x :: l, n + 1, v, h => by simpa using aNth_spec (by simpa [aNth] using h)

theorem sound_extract {x x' v : Value} {n : Nat} (hx : VR m x x') (h : aExtract x n = some v) (w : World) : ∃ v', (Instr.extract x' n).run P w = .ok v' w ∧ VR m v v' := by
  unfold aExtract at h
  split at h
  · cases hx with
    | tuple hl =>
      obtain ⟨v', hv', hr⟩ := hl.get n (aNth_spec h)
      refine ⟨v', ?_, hr⟩
      simp [Instr.extract, hv']
  · cases h

theorem VR.isInt {x x' : Value} (hx : VR m x x') {k : IntKind} {n : Int} (h : x = .int k n) : x' = .int k n := by subst h; cases hx; rfl

theorem sound_eqNil {d : TypeDesc} {t : TypeId} {x x' y y' : Value} {r : Bool} {n : Nat} (hx : VR m x x') (hy : VR m y y') (h : eqNil d x y = some r) (w : World) (ht : (underlying t).run P w = .ok d w) :
    (Op.equalIn (n + 1) t x' y').run P w = .ok r w := by
  unfold eqNil at h
  split at h
  all_goals first
    | (cases h; done)
    | (cases h; cases hx <;> cases hy <;> simp [Op.equalIn, ht])

theorem guard_nil {op : BinOp} {t : TypeId} {x y : Operand} {d : TypeDesc} {a a' b b' : Value} {r : Bool} (ha : VR m a a') (hb : VR m b b') (h : eqNil d a b = some r) (w : World) : (eqGuard op t x y a' b').run P w = .ok () w := by
  unfold eqNil at h
  unfold eqGuard
  split at h
  all_goals first
    | (cases h; done)
    | (cases h; cases ha <;> cases hb <;> (simp; done))
    | (cases h; cases ha <;> cases hb <;> simp <;> split <;> simp)

theorem closed_ofPv {o : Option Value} {v : Value} (h : ofPv o = some v) : o = some v ∧ closed v = true := by
  unfold ofPv at h
  split at h
  · split at h
    · cases h; exact ⟨rfl, by assumption⟩
    · cases h
  · cases h

end
end Go.Ax
