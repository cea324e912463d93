/- AX: the operations are those of the model: iterators. -/
import Derived.Test.YtefogennhgacjaaGreatAxSound13
namespace Go.Ax
set_option linter.unusedSimpArgs false
set_option linter.unusedVariables false
open Go

section
variable {P : Program} {B : Nat} {w0 : World} {m : Map}

theorem run_getObj {w : World} {b : Nat} {o : Obj} (h : w.heap[b]? = some o) (hc : ∀ c e z, o ≠ .cells c e z) : (getObj b).run P w = .ok o w := by
  unfold getObj
  simp only [Sem.run, h]

theorem lt_of_heap {w : World} {b : Nat} {o : Obj} (h : w.heap[b]? = some o) : b < w.heap.size := by
  rcases Nat.lt_or_ge b w.heap.size with h' | h'
  · exact h'
  · rw [Array.getElem?_eq_none h'] at h; cases h

/-- A new iterator. -/
theorem post_iter {s s1 : St} {w : World} {row : Row} {o : Obj} {v : Value} (R : Rel B w0 m s.h w) (hfree : ∀ i, s.n ≤ i → i < s1.n → m i = none)
    (h : (A.nw row fun j => A.ret (.pointer (some ⟨j, 0, none⟩))).run s = some (v, s1)) (hrow : ∀ m', Sub m m' → RowR m' (w.alloc o) w.heap.size 0 0 row) (hro : isRo row = false := by rfl) :
    Post B w0 m s.n v s1 (.pointer (some ⟨w.heap.size, 0, none⟩)) (w.alloc o) := by
  have h := run_nw h
  obtain ⟨h1, h2⟩ := run_ret h
  subst h1 h2
  have hj : m s.n = none := hfree _ (Nat.le_refl _) (by simp)
  obtain ⟨r1, r2, r3⟩ := post_obj (o := o) (row := row) R hj (hrow _ (Map.sub_upd _ hj)) hro
  exact ⟨_, r2, r1, .ptr (f := 0) (o := 0) (Map.upd_same _ _ _), r3⟩

theorem sound_range {t : TypeId} {x x' : Value} {v : Value} {s s1 : St} {w : World} (hx : VR m x x') (R : Rel B w0 m s.h w) (hfree : ∀ i, s.n ≤ i → i < s1.n → m i = none)
    (h : (aRange P t x).run s = some (v, s1)) :
    ∃ v' w', (Instr.range t x').run P w = .ok v' w' ∧ Post B w0 m s.n v s1 v' w' := by
  unfold aRange at h
  split at h
  · rename_i st hu
    have hu := pv_run hu w
    cases hx
    exact ⟨_, _, by simp [Instr.range, hu], post_iter (o := .stringIter st 0) R hfree h fun m' _ => ⟨heap_alloc _ _, rfl⟩⟩
  · rename_i hu
    have hu := pv_run hu w
    cases hx
    exact ⟨_, _, by simp [Instr.range, hu], post_iter (o := .mapIter none 0 #[] 0) R hfree h fun m' _ => ⟨heap_alloc _ _, rfl⟩⟩
  · rename_i i _ _ hu
    have hu := pv_run hu w
    cases hx with
    | map hm =>
      obtain ⟨row, hrow, h⟩ := run_rd h
      cases row with
      | map es clock =>
        dsimp only at h
        obtain ⟨b', f', t2, es', q1, q2, q3, q4, q5, q6⟩ := map_len R hrow
        rw [hm] at q1; cases q1
        have hg := run_getObj_map (P := P) q4
        have hp := post_iter (o := .mapIter (some _) clock #[] clock) (s := ⟨s.h, s.n, i :: s.rl, s.wl⟩) R hfree h (fun m' hm' => ⟨⟨_, _, _, hm' _ _ hm, heap_alloc _ _⟩, rfl⟩)
        exact ⟨_, _, by simp [Instr.range, hu, hg], hp⟩
      | _ => exact (run_fail h).elim
  · exact (run_fail h).elim

theorem sound_nextStr {i : Nat} {x' : Value} {ty : TypeId} {v : Value} {s s1 : St} {w : World} (hx : VR m (.pointer (some ⟨i, 0, none⟩)) x') (R : Rel B w0 m s.h w)
    (h : (aNextStr i).run s = some (v, s1)) :
    ∃ v' w', (Instr.next x' true ty).run P w = .ok v' w' ∧ Post B w0 m s.n v s1 v' w' := by
  cases hx with
  | ptr hm =>
    rename_i b f t'
    obtain ⟨row, hrow, h⟩ := run_rd h
    cases row with
    | strIter q pos =>
      dsimp only at h
      obtain ⟨b', f', t2, q1, q2, q3, q4⟩ := R.row _ _ hrow
      rw [hm] at q1; cases q1
      subst q4
      have hg := run_getObj (P := P) q3 (by intro c e z hh; cases hh)
      have hset : ∀ o, (setObj b o).run P w = .ok () { w with heap := w.heap.setIfInBounds b o } := fun o => run_setObj q3 (by intro c e z hh; cases hh)
      split at h
      · rename_i hlt
        have hlt : pos < q.size := by simpa [Nat.blt_eq] using hlt
        obtain ⟨_, h⟩ := run_wr h
        obtain ⟨h1, h2⟩ := run_ret h
        subst h1 h2
        refine ⟨_, _, ?_, .same (R.setObj hrow rfl rfl hm (lt_of_heap q3) ⟨heap_setObj (lt_of_heap q3), rfl⟩) (.tuple (.cons (.bool _) (.cons (.int _ _) (.cons (.int _ _) .nil))))⟩
        simp [Instr.next, hg, hlt, hset, goInt]
      · rename_i hlt
        have hlt : ¬ pos < q.size := by
          intro hh
          rw [show Nat.blt pos q.size = true from by simpa [Nat.blt_eq] using hh] at hlt
          cases hlt
        obtain ⟨h1, h2⟩ := run_ret h
        subst h1 h2
        exact ⟨_, w, by simp [Instr.next, hg, hlt], .same R (.tuple (.cons (.bool _) .nil))⟩
    | _ => exact (run_fail h).elim

end
end Go.Ax
