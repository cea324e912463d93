/- AX: the operations are those of the model: structs, slices made, the builtin functions. -/
import Derived.Test.YtefogennhgacjaaGreatAxSound6
namespace Go.Ax
set_option linter.unusedSimpArgs false
set_option linter.unusedVariables false
open Go

section
variable {P : Program} {B : Nat} {w0 : World} {m : Map}

theorem run_places {w : World} : ∀ {l : List Field} {r : List (Nat × Nat)}, placesOf P l = some r →
    (l.mapM fun f => (do pure (f.offset, ← sizeOf f.type) : Sem (Nat × Nat))).run P w = .ok r w
  | [], r, h => by simp [placesOf] at h; subst h; simp
  | f :: l, r, h => by
    unfold placesOf at h
    split at h
    · cases h
    · rename_i n hn
      have hn := pv_run hn w
      split at h
      · cases h
      · rename_i r' hr
        cases h
        simp only [List.mapM_cons, Sem.run_bind, hn, Result.andThen_ok, Sem.run_pure]
        rw [run_places hr]
        rfl

theorem sound_build {t : TypeId} {parts parts' : List (Nat × Value)} {v : Value} (hp : Parts m parts parts') (h : aBuild P t parts = some v) (w : World) :
    ∃ v', (Instr.build t ⟨parts'⟩).run P w = .ok v' w ∧ VR m v v' := by
  unfold aBuild at h
  split at h
  · cases h
  · rename_i z hz
    obtain ⟨z1, z2, z3⟩ := zeroOf_spec hz
    split at h
    · rename_i fields hu
      have hu := pv_run hu w
      split at h
      · cases h
      · rename_i pl hpl
        split at h
        · rename_i cs hcs
          cases h
          obtain ⟨cs', h1, h2⟩ := sound_fill hp (VRs.of_closed m _ (closedL_cells z2)) hcs
          refine ⟨.agg ⟨cs'⟩, ?_, .agg h2⟩
          have hpl' := run_places (P := P) (w := w) hpl
          have hz' : z.cells = ⟨cellsOf z⟩ := by apply Array.ext'; exact cellsOf_toList z
          have hm : (fields.mapM fun f => (do pure (f.offset, ← sizeOf f.type) : Sem (Nat × Nat))).run P w = .ok ⟨pl⟩ w := by
            rw [Array.mapM_eq_mapM_toList]
            simp only [Sem.run_map]
            rw [hpl']
            rfl
          have hfill : Instr.fill (fun x => (⟨pl⟩ : Array (Nat × Nat))[x]?) z.cells parts' = some ⟨cs'⟩ := by
            rw [hz', ← h1]
            congr 1
            funext x
            rw [← Array.getElem?_toList]
          simp only [Instr.build, Sem.run_bind, z1, Result.andThen_ok, hu, hm]
          rw [hfill]
          rfl
        · cases h
    · rename_i n e hu
      have hu := pv_run hu w
      split at h
      · rename_i k hk
        have hk := pv_run hk w
        split at h
        · rename_i cs hcs
          cases h
          obtain ⟨cs', h1, h2⟩ := sound_fill hp (VRs.of_closed m _ (closedL_cells z2)) hcs
          refine ⟨.agg ⟨cs'⟩, ?_, .agg h2⟩
          have hz' : z.cells = ⟨cellsOf z⟩ := by apply Array.ext'; exact cellsOf_toList z
          rw [← hz'] at h1
          simp [Instr.build, z1, hu, hk, h1]
        · cases h
      · cases h
    · cases h

theorem rep_length (l : List Value) : ∀ n, (rep l n).length = n * l.length
  | 0 => by simp [rep]
  | n + 1 => by simp [rep, rep_length l n, Nat.succ_mul, Nat.add_comm]

theorem rep_get (l : List Value) : ∀ (n i : Nat), i < n * l.length → (rep l n)[i]? = l[i % l.length]?
  | 0, i, h => by simp at h
  | n + 1, i, h => by
    unfold rep
    rcases Nat.lt_or_ge i l.length with h1 | h1
    · rw [List.getElem?_append_left h1, Nat.mod_eq_of_lt h1]
    · rw [List.getElem?_append_right h1, rep_get l n _ (by rw [Nat.succ_mul] at h; omega), ← Nat.mod_eq_sub_mod h1]

theorem rep_zero (z : Array Value) (n : Nat) : ((Array.range (n * z.size)).map fun i => z[i % z.size]!) = ⟨rep z.toList n⟩ := by
  apply Array.ext'
  apply List.ext_getElem?
  intro i
  simp only [Array.toList_map, Array.toList_range, List.getElem?_map]
  rcases Nat.lt_or_ge i (n * z.size) with h | h
  · rw [List.getElem?_range h, rep_get _ _ _ (by simpa using h)]
    simp only [Option.map_some]
    have hpos : 0 < z.size := by
      rcases Nat.eq_zero_or_pos z.size with h0 | h0
      · rw [h0] at h; omega
      · exact h0
    have hlt : i % z.size < z.size := Nat.mod_lt _ hpos
    simp [hlt]
  · rw [List.getElem?_eq_none (by simpa using h), List.getElem?_eq_none (by rw [rep_length]; simpa using h)]
    rfl

theorem closed_rep {l : List Value} (h : closed.closedL l = true) : ∀ n, closed.closedL (rep l n) = true
  | 0 => rfl
  | n + 1 => by
    have ih := closed_rep h n
    unfold rep
    have key : ∀ a b : List Value, closed.closedL a = true → closed.closedL b = true → closed.closedL (a ++ b) = true := by
      intro a
      induction a with
      | nil => intro b _ hb; exact hb
      | cons x a iha =>
        intro b ha hb
        simp only [closed.closedL, Bool.and_eq_true] at ha
        simp only [List.cons_append, closed.closedL, Bool.and_eq_true]
        exact ⟨ha.1, iha b ha.2 hb⟩
    exact key _ _ h ih

/-- A new slice over a new row. -/
theorem post_new {s : St} {w : World} {c c' : List Value} {e : TypeId} {v : Value} {s1 : St} {len cap : Nat} (R : Rel B w0 m s.h w) (hc : VRs m c c') (hfree : ∀ i, s.n ≤ i → i < s1.n → m i = none)
    (h : (A.nw (.cells c) fun j => A.ret (.slice (some ⟨j, 0, none⟩) len cap)).run s = some (v, s1)) :
    Post B w0 m s.n v s1 (.slice (some ⟨w.heap.size, 0, none⟩) len cap) (w.alloc (.cells ⟨c'⟩ e)) := by
  have h := run_nw h
  obtain ⟨h1, h2⟩ := run_ret h
  subst h1 h2
  have hj : m s.n = none := hfree _ (Nat.le_refl _) (by simp)
  have hr := R.newCells hj hc e []
  simp only [List.append_nil] at hr
  refine ⟨_, Map.sub_upd _ hj, hr, .slx (f := 0) (o := 0) (Map.upd_same _ _ _), fun i hi => ?_⟩
  by_cases e : i = s.n
  · right; subst e; simp
  · left; rwa [Map.upd_ne _ _ e] at hi

theorem sound_buildSlice {t : TypeId} {len : Nat} {parts parts' : List (Nat × Value)} (hp : Parts m parts parts') : Sound P B w0 m (aBuildSlice P t len parts) (Instr.buildSlice t len ⟨parts'⟩) := by
  intro s v s1 w h R hfree
  unfold aBuildSlice at h
  split at h
  · exact (run_fail h).elim
  · rename_i e he
    have hu := elemOfSlice_spec he w
    split at h
    · rename_i n z hn hz
      have hn := pv_run hn w
      obtain ⟨z1, z2, z3⟩ := zeroOf_spec hz
      split at h
      · rename_i hle
        have hle := Nat.le_of_ble_eq_true hle
        split at h
        · rename_i cs hcs
          split at h
          · rename_i hzn
            have hzn := Nat.eq_of_beq_eq_true hzn
            obtain ⟨cs', h1, h2⟩ := sound_fill hp (VRs.of_closed m _ (closed_rep (closedL_cells z2) len)) hcs
            refine ⟨_, _, ?_, post_new (e := e) R h2 hfree h⟩
            have hrep := rep_zero z.cells len
            rw [cellsOf_toList] at hrep
            have hsz : z.cells.size = n := by rw [← hzn, ← cellsOf_toList]; simp
            rw [hsz] at hrep
            have hle2 : ¬ len * n > 2 ^ 24 := by omega
            by_cases h0 : len * n = 0
            · have e1 : rep (cellsOf z) len = [] := by
                apply List.length_eq_zero_iff.1
                rw [rep_length, hzn, h0]
              rw [e1] at h1
              have e2 : (Array.range (len * n)).map (fun i => (#[] : Array Value)[i % (#[] : Array Value).size]!) = ⟨[]⟩ := by
                rw [h0]; simp
              simp only [Instr.buildSlice, Sem.run_bind, hu, Result.andThen_ok, hn, Sem.run_ite, if_neg hle2, if_pos h0, Sem.run_pure]
              rw [e2, h1]
              simp [newRow]
            · simp only [Instr.buildSlice, Sem.run_bind, hu, Result.andThen_ok, hn, Sem.run_ite, if_neg hle2, if_neg h0, z1, Sem.run_pure]
              rw [show (Array.range (len * n)).map (fun x => z.cells[x % z.cells.size]!) = ⟨rep (cellsOf z) len⟩ from by rw [hsz]; exact hrep, h1]
              simp [newRow]
          · exact (run_fail h).elim
        · exact (run_fail h).elim
      · exact (run_fail h).elim
    · exact (run_fail h).elim

end
end Go.Ax
