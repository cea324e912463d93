/- AX: the operations are those of the model: append, copy, and the rest of the builtin functions. -/
import Derived.Test.YtefogennhgacjaaGreatAxSound9
namespace Go.Ax
set_option linter.unusedSimpArgs false
set_option linter.unusedVariables false
open Go

section
variable {P : Program} {B : Nat} {w0 : World} {m : Map}

theorem zeroCells_rep (z : Value) (n : Nat) : Builtin.zeroCells z.cells n = ⟨rep (cellsOf z) n⟩ := by
  have := rep_zero z.cells n
  rw [cellsOf_toList] at this
  exact this

/-- append of a slice or a string. -/
theorem appRun_of {t u e : TypeId} {d : TypeDesc} {ty : TypeId} {rest : List TypeId} {sz n bytes : Nat} {x x' s' : Value} {new new' : List Value} {w : World} {ti : TypeInfo} {z : Value}
    (ht : (underlying t).run P w = .ok (.slice e) w) (hs : (sizeOf e).run P w = .ok sz w) (hu : (underlying u).run P w = .ok d w) (hd : ∀ k, d ≠ .int k)
    (hti : ∀ w, (typeInfo e).run P w = .ok ti w) (hz : ∀ w, (zeroValue e).run P w = .ok z w) (hn : (Builtin.lenOf x').run P w = .ok n w)
    (hf : ∀ w', w'.heap = w.heap → (Builtin.firstCells sz n x').run P w' = .ok ⟨new'⟩ w')
    (hb : ti.bytes ≤ 1048576) (hb0 : 0 < ti.bytes) (hzs : z.cells.size = sz) :
    AppRun P e sz n new' w s' ((Builtin.append_ ⟨t :: u :: rest⟩ ty ⟨[s', x']⟩).run P w) := by
  refine ⟨?_, ?_, ?_⟩
  · intro a len cap h hfit
    subst h
    exact append_fits ht hs hu hd hn (hf w rfl) hfit
  · intro len cap h hfit
    subst h
    exact append_fits ht hs hu hd hn (hf w rfl) hfit
  · intro a len cap old h hfit hsmall ho
    subst h
    exact append_grows ht hs hu hd hti hz hn (hf w.drew rfl) ho hfit hsmall hb hb0 hzs


theorem notInt {d : TypeDesc} (h : ∀ k, d = .int k → False) : ∀ k, d ≠ .int k := fun k e => h k e

theorem sound_builtin_append {tys : List TypeId} {x x' y y' : Value} {ty : TypeId} {v : Value} {s s1 : St} {w : World} (hx : VR m x x') (hy : VR m y y')
    (h : (aBuiltin P .append tys [x, y]).run s = some (v, s1)) (R : Rel B w0 m s.h w) (hfree : ∀ i, s.n ≤ i → i < s1.n → m i = none) :
    ∃ v' w', (Builtin.append_ ⟨tys⟩ ty ⟨[x', y']⟩).run P w = .ok v' w' ∧ Post B w0 m s.n v s1 v' w' := by
  simp only [aBuiltin] at h
  split at h
  · rename_i t u
    split at h
    · exact (run_fail h).elim
    · rename_i e d hni he hd
      have ht := elemOfSlice_spec he w
      have hd := pv_run hd w
      split at h
      · rename_i sz ti n len hs hti hn hlen
        have hs := pv_run hs w
        have hti := pv_run hti
        split at h
        · rename_i hok
          obtain ⟨z, hz, z1, z2, z3, z4, z5⟩ := okElem_spec hok
          obtain ⟨new, s2, h1, h2⟩ := run_bind_some h
          split at h2
          · rename_i hln
            have hln := Nat.eq_of_beq_eq_true hln
            have hq := aFirst_spec (P := P) hy h1 R
            obtain ⟨e1, e2, new', g1, g2⟩ := hq
            have hz' := (zeroOf_spec hz).1
            have hzs : z.cells.size = sz := by rw [← z1, ← cellsOf_toList]; simp
            have hfh : ∀ w', w'.heap = w.heap → (Builtin.firstCells sz n y').run P w' = .ok ⟨new'⟩ w' := by
              exact g1
            have happ := appRun_of (ty := ty) (rest := []) (bytes := 0) (x := y) (s' := x') (new := new) ht hs hd (notInt (fun k hk => hni k hk)) hti hz' (aLen_spec hy hn w) hfh z3 z5 hzs
            have hR2 : Rel B w0 m s2.h w := by rw [e1]; exact R
            obtain ⟨v', w', k1, k2⟩ := sound_append hx g2 hln z4 hlen z2 happ h2 hR2 (by rw [e2]; exact hfree)
            exact ⟨v', w', k1, by rw [e2] at k2; exact k2⟩
          · exact (run_fail h2).elim
        · exact (run_fail h).elim
      · exact (run_fail h).elim
    · exact (run_fail h).elim
  · exact (run_fail h).elim

end
end Go.Ax
