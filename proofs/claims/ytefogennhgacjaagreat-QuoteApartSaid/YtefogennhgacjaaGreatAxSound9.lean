/- AX: the operations are those of the model: the builtin functions. -/
import Derived.Test.YtefogennhgacjaaGreatAxSound8
namespace Go.Ax
set_option linter.unusedSimpArgs false
set_option linter.unusedVariables false
open Go

section
variable {P : Program} {B : Nat} {w0 : World} {m : Map}

theorem VRs.nth {l l' : List Value} (h : VRs m l l') (n : Nat) (hn : n < l.length) : ∃ v', l'[n]? = some v' ∧ VR m l[n] v' := h.get n (by simp [hn])

theorem map_len {h : T Row} {w : World} {i : Nat} {es : List MapEntry} {clock : Nat} (R : Rel B w0 m h w) (hg : h.get i = some (.map es clock)) :
    ∃ b f t es', m i = some (b, f, t) ∧ B ≤ b ∧ f = 0 ∧ w.heap[b]? = some (.map es' clock) ∧ es'.toList.length = es.length ∧
      ∀ (j : Nat) (e : MapEntry), es[j]? = some e → closed e.key = true ∧ ∃ v', es'.toList[j]? = some { e with val := v' } ∧ VR m e.val v' := by
  obtain ⟨b, f, t, h1, h2, ⟨es', h3, h4, h5⟩, h6⟩ := R.row _ _ hg
  exact ⟨b, f, t, es', h1, h2, h6, h3, h4, h5⟩

theorem run_getObj_map {w : World} {b : Nat} {es : Array MapEntry} {clock : Nat} (h : w.heap[b]? = some (.map es clock)) : (getObj b).run P w = .ok (.map es clock) w := by
  simp [getObj, Sem.run, h]

theorem sound_len {t : TypeId} {rest : List TypeId} {x x' : Value} {ty : TypeId} {v : Value} {s s1 : St} {w : World} (hx : VR m x x')
    (h : (aBuiltin P .len (t :: rest) [x]).run s = some (v, s1)) (R : Rel B w0 m s.h w) :
    ∃ v', (Builtin.len_ ⟨t :: rest⟩ ty ⟨[x']⟩).run P w = .ok v' w ∧ VR m v v' ∧ s1.h = s.h ∧ s1.n = s.n := by
  simp only [aBuiltin] at h
  split at h
  · exact (run_fail h).elim
  rename_i hfit
  have hfit : ∃ d, pv P (underlying t) = some d ∧ lenFits d x = true := by
    split at hfit
    · exact ⟨_, by assumption, hfit⟩
    · cases hfit
  obtain ⟨d, hd, hf⟩ := hfit
  have hd := pv_run hd w
  split at h
  · rename_i n hn
    obtain ⟨h1, h2⟩ := run_ret h
    subst h1 h2
    refine ⟨.int .i64 n, ?_, .int _ _, rfl, rfl⟩
    cases hx <;> simp [aLen] at hn <;> subst hn <;> cases d <;> simp [lenFits] at hf <;> simp [Builtin.len_, hd, goInt]
  · split at h
    · obtain ⟨h1, h2⟩ := run_ret h
      subst h1 h2
      cases hx
      refine ⟨.int .i64 0, ?_, .int _ _, rfl, rfl⟩
      cases d <;> simp [lenFits] at hf <;> simp [Builtin.len_, hd, goInt]
    · rename_i r
      cases hx with
      | map hm =>
        rename_i b f t'
        obtain ⟨row, hrow, h⟩ := run_rd h
        cases row with
        | map es clock =>
          dsimp only at h
          obtain ⟨h1, h2⟩ := run_ret h
          subst h1 h2
          obtain ⟨b', f', t2, es', q1, q2, q3, q4, q5, q6⟩ := map_len R hrow
          rw [hm] at q1; cases q1
          refine ⟨.int .i64 es.length, ?_, .int _ _, rfl, rfl⟩
          have hg := run_getObj_map (P := P) q4
          have : es'.size = es.length := by simpa using q5
          cases d <;> simp [lenFits] at hf <;> simp [Builtin.len_, hd, goInt, hg, this]
        | _ => exact (run_fail h).elim
    · exact (run_fail h).elim

end
end Go.Ax
