/- AX: the operations are those of the model: copy, clear, maps. -/
import Derived.Test.YtefogennhgacjaaGreatAxSound10
namespace Go.Ax
set_option linter.unusedSimpArgs false
set_option linter.unusedVariables false
open Go

section
variable {P : Program} {B : Nat} {w0 : World} {m : Map}

theorem sound_copy {tys : List TypeId} {x x' y y' : Value} {ty : TypeId} {v : Value} {s s1 : St} {w : World} (hx : VR m x x') (hy : VR m y y')
    (h : (aBuiltin P .copy tys [x, y]).run s = some (v, s1)) (R : Rel B w0 m s.h w) :
    ∃ v' w', (Builtin.copy_ ⟨tys⟩ ty ⟨[x', y']⟩).run P w = .ok v' w' ∧ Post B w0 m s.n v s1 v' w' := by
  simp only [aBuiltin] at h
  split at h
  · rename_i t rest
    split at h
    · rename_i e he
      have ht := elemOfSlice_spec he w
      split at h
      · rename_i sz dl n hs hd hn
        have hs := pv_run hs w
        have hn' := aLen_spec (P := P) hy hn w
        split at h
        · rename_i hmin
          split at h
          case h_2 => exact (run_fail h).elim
          obtain ⟨h1, h2⟩ := run_ret h
          subst h1 h2
          refine ⟨.int .i64 0, w, ?_, .same R (.int _ _)⟩
          have hf : (Builtin.firstCells sz 0 y').run P w = .ok #[] w := by
            cases hy <;> simp [aLen] at hn <;> simp [Builtin.firstCells, loadCells, loadCellsFrom]
          cases hx <;> simp [aLen] at hd <;> subst hd <;> simp [Builtin.copy_, ht, hs, hn', hmin, hf, storeCells, goInt]
        · rename_i k hmin
          obtain ⟨new, s2, h1, h2⟩ := run_bind_some h
          obtain ⟨e1, e2, new', g1, g2⟩ := aFirst_spec (P := P) hy h1 R
          have g1 := g1 w rfl
          split at h2
          · rename_i i o sp len cap
            obtain ⟨_, s3, h3, h4⟩ := run_bind_some h2
            obtain ⟨h5, h6⟩ := run_ret h4
            subst h5 h6
            obtain ⟨q1, q2, c, c2, q3, q4, q5⟩ := run_stCells h3
            have hlen : len = dl := by simpa [aLen] using hd
            have key : ∀ {b f t' : Nat} {a : Addr} {cap' : Nat}, m i = some (b, f, t') → a = ⟨b, f + o, none⟩ →
                ∃ v' w', (Builtin.copy_ ⟨t :: rest⟩ ty ⟨[.slice (some a) len cap', y']⟩).run P w = .ok v' w' ∧ Post B w0 m s.n (.int .i64 (k + 1 : Nat)) s1 v' w' := by
              intro b f t' a cap' hm ha
              subst ha
              obtain ⟨w', hw', r'⟩ := Rel.stores hm P o g2 q2 0 c c2 _ _ R (by rw [← e1]; exact q3) q4
              refine ⟨.int .i64 (k + 1 : Nat), w', ?_, .same (by rw [q5, e1]; exact r') (.int _ _)⟩
              simp [Builtin.copy_, ht, hs, hn', hlen, hmin, g1, hw', goInt]
            cases hx with
            | slx hm => exact key hm rfl
            | slz => simp [aLen] at hd; subst hd; simp at hmin
            | slo hm hc hl hz ha =>
              refine key hm (ha.resolve_left ?_)
              intro h0
              subst h0
              have : dl = 0 := by omega
              subst this
              simp at hmin
          · exact (run_fail h2).elim
      · exact (run_fail h).elim
    · exact (run_fail h).elim
  · exact (run_fail h).elim

theorem sound_clear {tys : List TypeId} {x x' : Value} {ty : TypeId} {v : Value} {s s1 : St} {w : World} (hx : VR m x x')
    (h : (aBuiltin P .clear tys [x]).run s = some (v, s1)) (R : Rel B w0 m s.h w) :
    ∃ v' w', (Builtin.clear_ ⟨tys⟩ ty ⟨[x']⟩).run P w = .ok v' w' ∧ Post B w0 m s.n v s1 v' w' := by
  simp only [aBuiltin] at h
  split at h
  case h_2 => exact (run_fail h).elim
  rename_i t
  split at h
  · exact (run_fail h).elim
  rename_i d hd
  have hd := pv_run hd w
  split at h
  · obtain ⟨h1, h2⟩ := run_ret h
    subst h1 h2
    cases hx
    exact ⟨.tuple #[], w, by simp [Builtin.clear_, hd], .same R (.tuple .nil)⟩
  · rename_i i o sp n cap
    split at h
    · obtain ⟨h1, h2⟩ := run_ret h
      subst h1 h2
      refine ⟨.tuple #[], w, ?_, .same R (.tuple .nil)⟩
      cases hx <;> simp [Builtin.clear_, hd]
    · rename_i k
      split at h
      · rename_i e he
        have ht := elemOfSlice_spec he w
        split at h
        · rename_i z hz
          obtain ⟨z1, z2, z3⟩ := zeroOf_spec hz
          obtain ⟨_, s3, h3, h4⟩ := run_bind_some h
          obtain ⟨h5, h6⟩ := run_ret h4
          subst h5 h6
          obtain ⟨q1, q2, c, c2, q3, q4, q5⟩ := run_stCells h3
          have key : ∀ {b f t' : Nat} {a : Addr} {cap' : Nat}, m i = some (b, f, t') → a = ⟨b, f + o, none⟩ →
              ∃ v' w', (Builtin.clear_ ⟨[t]⟩ ty ⟨[.slice (some a) (k + 1) cap']⟩).run P w = .ok v' w' ∧ Post B w0 m s.n (.tuple #[]) s1 v' w' := by
            intro b f t' a cap' hm ha
            subst ha
            obtain ⟨w', hw', r'⟩ := Rel.stores hm P o (VRs.of_closed m _ (closed_rep (closedL_cells z2) (k + 1))) q2 0 c c2 _ _ R q3 q4
            refine ⟨.tuple #[], w', ?_, .same (by rw [q5]; exact r') (.tuple .nil)⟩
            simp [Builtin.clear_, ht, z1, zeroCells_rep, hw']
          cases hx with
          | slx hm => exact key hm rfl
          | slo hm hc hl hz0 ha => exact key hm (ha.resolve_left (by omega))
        · exact (run_fail h).elim
      · exact (run_fail h).elim
  · exact (run_fail h).elim

end
end Go.Ax
