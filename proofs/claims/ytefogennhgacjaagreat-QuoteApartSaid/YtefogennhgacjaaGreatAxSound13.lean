/- AX: the operations are those of the model: maps written, iterators. -/
import Derived.Test.YtefogennhgacjaaGreatAxSound12
namespace Go.Ax
set_option linter.unusedSimpArgs false
set_option linter.unusedVariables false
open Go

section
variable {P : Program} {B : Nat} {w0 : World} {m : Map}

theorem run_setObj {w : World} {b : Nat} {o o' : Obj} (h : w.heap[b]? = some o') (hc : ∀ c e z, o' ≠ .cells c e z) : (setObj b o).run P w = .ok () { w with heap := w.heap.setIfInBounds b o } := by
  unfold setObj
  simp only [Sem.run, h]

theorem Rel.setObj {h : T Row} {w : World} {i b f t : Nat} {row row' : Row} {o : Obj} (R : Rel B w0 m h w) (hg : h.get i = some row) (hro : isRo row = false) (hro' : isRo row' = false) (hm : m i = some (b, f, t)) (hlt : b < w.heap.size)
    (hrow : RowR m { w with heap := w.heap.setIfInBounds b o } b f t row') : Rel B w0 m (h.set i (some row')) { w with heap := w.heap.setIfInBounds b o } := by
  have hB : B ≤ b := by
    obtain ⟨b', f', t', h1, h2, _⟩ := R.row _ _ hg
    rw [hm] at h1; cases h1; exact h2.le hro
  refine R.turn hg hro hro' hm (fun j hj => ?_) ?_ hrow
  · show (w.heap.setIfInBounds b o)[j]? = _
    rw [Array.getElem?_setIfInBounds, if_neg (Ne.symm hj)]
  · refine ⟨rfl, rfl, rfl, by simp, fun k hk => ?_⟩
    show (w.heap.setIfInBounds b o)[k]? = _
    rw [Array.getElem?_setIfInBounds, if_neg (by omega)]

theorem heap_setObj {w : World} {b : Nat} {o : Obj} (h : b < w.heap.size) : ({ w with heap := w.heap.setIfInBounds b o } : World).heap[b]? = some o := by
  show (w.heap.setIfInBounds b o)[b]? = _
  rw [Array.getElem?_setIfInBounds, if_pos rfl, if_pos h]

theorem entAt_spec : ∀ {l : List MapEntry} {n : Nat} {e : MapEntry}, entAt l n = some e → l[n]? = some e
  | [], _, _, h => by simp [entAt] at h
  | x :: l, 0, e, h => by simpa [entAt] using h
  | x :: l, n + 1, e, h => by simpa using entAt_spec (by simpa [entAt] using h)

theorem setAt_eq : ∀ (l : List MapEntry) (n : Nat) (k v : Value), setAt l n k v = l.modify n fun e => { e with key := k, val := v }
  | [], n, k, v => by simp [setAt]
  | x :: l, 0, k, v => by simp [setAt]
  | x :: l, n + 1, k, v => by simp [setAt, setAt_eq l n k v]

theorem ERs.modify : ∀ {l l' : List MapEntry}, ERs m l l' → ∀ (n : Nat) {k v v' : Value}, closed k = true → VR m v v' →
    ERs m (l.modify n fun e => { e with key := k, val := v }) (l'.modify n fun e => { e with key := k, val := v' })
  | _, _, .nil, n, k, v, v', hk, hv => by simp; exact .nil
  | _, _, @ERs.cons _ e u l l' he hu hl, 0, k, v, v', hk, hv => by
    simp only [List.modify_zero_cons]
    exact @ERs.cons m { e with key := k, val := v } v' l l' hk hv hl
  | _, _, @ERs.cons _ e u l l' he hu hl, n + 1, k, v, v', hk, hv => by
    simp only [List.modify_succ_cons]
    exact .cons he hu (hl.modify n hk hv)

theorem ERs.mapR {w : World} {b : Nat} {es : List MapEntry} {es' : Array MapEntry} {clock : Nat} (h : ERs m es es'.toList) (hb : w.heap[b]? = some (.map es' clock)) : MapR m w b es clock :=
  ⟨es', hb, h.length, h.get⟩

theorem sound_update {t : TypeId} {x x' k k' v v' : Value} {u : Value} {s s1 : St} {w : World} (hx : VR m x x') (hk : VR m k k') (hv : VR m v v') (h : (aUpdate P t x k v).run s = some (u, s1)) (R : Rel B w0 m s.h w) :
    ∃ w', (Instr.mapUpdate t x' k' v').run P w = .ok () w' ∧ Rel B w0 m s1.h w' ∧ s1.n = s.n ∧ u = undef := by
  unfold aUpdate at h
  split at h
  · rename_i key elem hu hc
    have hu := pv_run hu w
    have := VR.eq_of_closed hc hk
    subst this
    rename_i r
    cases hx with
    | map hm =>
      rename_i b f t'
      obtain ⟨row, hrow, h⟩ := run_rd h
      cases row with
      | map es clock =>
        dsimp only at h
        obtain ⟨b', f', t2, es', q1, q2, q3, q4, q5, q6⟩ := map_len R hrow
        rw [hm] at q1; cases q1
        subst q3
        have hg := run_getObj_map (P := P) q4
        have hers : ERs m es es'.toList := ERs.of_get q5 q6
        have hlt : b < w.heap.size := by
          rcases Nat.lt_or_ge b w.heap.size with h | h
          · exact h
          · rw [Array.getElem?_eq_none h] at q4; cases q4
        have hset : ∀ o, (setObj b o).run P w = .ok () { w with heap := w.heap.setIfInBounds b o } := fun o => run_setObj q4 (by intro c e z hh; cases hh)
        split at h
        · rename_i i vv hck hfk
          have hck := pv_run hck w
          split at h
          · rename_i e he
            have he := entAt_spec he
            split at h
            · rename_i k2 hks
              have hks := pv_run hks w
              split at h
              · rename_i hc2
                obtain ⟨_, h⟩ := run_wr h
                obtain ⟨h1, h2⟩ := run_ret h
                subst h1 h2
                obtain ⟨v2, g1, g2, g3⟩ := findKey_rel hers hfk w
                obtain ⟨_, v3, he', _⟩ := hers.get i e he
                have he' : es'[i]? = some { e with val := v3 } := by rw [← Array.getElem?_toList]; exact he'
                refine ⟨{ w with heap := w.heap.setIfInBounds b (.map (es'.modify i fun e => { e with key := k2, val := v' }) clock) }, ?_, ?_, rfl, rfl⟩
                · simp [Instr.mapUpdate, hu, hg, hck, g1, he', hks, hset]
                · refine R.setObj hrow rfl rfl hm hlt ⟨?_, rfl⟩
                  refine ERs.mapR ?_ (heap_setObj hlt)
                  rw [setAt_eq]
                  simpa using hers.modify i hc2 hv
              · exact (run_fail h).elim
            · exact (run_fail h).elim
          · exact (run_fail h).elim
        · rename_i hck hfk
          have hck := pv_run hck w
          obtain ⟨_, h⟩ := run_wr h
          obtain ⟨h1, h2⟩ := run_ret h
          subst h1 h2
          have g1 := findKey_rel hers hfk w
          refine ⟨{ w with heap := w.heap.setIfInBounds b (.map (es'.push { key := k', val := v', born := clock }) (clock + 1)) }, ?_, ?_, rfl, rfl⟩
          · simp [Instr.mapUpdate, hu, hg, hck, g1, hset]
          · refine R.setObj hrow rfl rfl hm hlt ⟨?_, rfl⟩
            refine ERs.mapR ?_ (heap_setObj hlt)
            have := hers.snoc (e := { key := k', val := v, born := clock }) (v' := v') hc hv
            simpa using this
        · exact (run_fail h).elim
      | _ => exact (run_fail h).elim
  · exact (run_fail h).elim

/-- A new block that is no row of cells. -/
theorem post_obj {s : St} {w : World} {row : Row} {o : Obj} (R : Rel B w0 m s.h w) (hj : m s.n = none)
    (hrow : RowR (m.upd s.n (w.heap.size, 0, 0)) (w.alloc o) w.heap.size 0 0 row) (hro : isRo row = false := by rfl) :
    Rel B w0 (m.upd s.n (w.heap.size, 0, 0)) (s.h.set s.n (some row)) (w.alloc o) ∧ Sub m (m.upd s.n (w.heap.size, 0, 0)) ∧
      ∀ i, m.upd s.n (w.heap.size, 0, 0) i ≠ none → m i ≠ none ∨ (s.n ≤ i ∧ i < s.n + 1) := by
  refine ⟨R.new hj hro hrow, Map.sub_upd _ hj, fun i hi => ?_⟩
  by_cases e : i = s.n
  · right; omega
  · left; rwa [Map.upd_ne _ _ e] at hi

theorem heap_alloc (w : World) (o : Obj) : (w.alloc o).heap[w.heap.size]? = some o := by
  show (w.heap.push o)[w.heap.size]? = _
  simp

theorem sound_makeMap (t : TypeId) : Sound P B w0 m (.nw (.map [] 0) fun j => .ret (.map (some j))) (Instr.makeMap t none) := by
  intro s v s1 w h R hfree
  have h := run_nw h
  obtain ⟨h1, h2⟩ := run_ret h
  subst h1 h2
  obtain ⟨r1, r2, r3⟩ := post_obj (o := .map #[] 0) (row := .map [] 0) R (hfree _ (Nat.le_refl _) (by simp)) ⟨⟨#[], heap_alloc _ _, rfl, fun j e he => by simp at he⟩, rfl⟩
  exact ⟨.map (some w.heap.size), _, by simp [Instr.makeMap], _, r2, r1, .map (Map.upd_same _ _ _), r3⟩

end
end Go.Ax
