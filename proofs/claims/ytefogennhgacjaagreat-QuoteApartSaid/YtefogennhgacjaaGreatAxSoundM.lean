/- AX: the operations are those of the model: an iterator over a map. -/
import Derived.Test.YtefogennhgacjaaGreatAxSound14
namespace Go.Ax
set_option linter.unusedSimpArgs false
set_option linter.unusedVariables false
open Go

section
variable {P : Program} {B : Nat} {w0 : World} {m : Map}

theorem ERs.filter {p : MapEntry → Bool} (hp : ∀ (e : MapEntry) (v : Value), p { e with val := v } = p e) : ∀ {l l' : List MapEntry}, ERs m l l' → ERs m (l.filter p) (l'.filter p)
  | _, _, .nil => .nil
  | _, _, @ERs.cons _ e v' l l' hk hv hl => by
    simp only [List.filter_cons, hp e v']
    split
    · exact .cons hk hv (hl.filter hp)
    · exact hl.filter hp

theorem ERs.all {p : MapEntry → Bool} (hp : ∀ (e : MapEntry) (v : Value), p { e with val := v } = p e) : ∀ {l l' : List MapEntry}, ERs m l l' → l'.all p = l.all p
  | _, _, .nil => rfl
  | _, _, @ERs.cons _ e v' l l' hk hv hl => by
    simp only [List.all_cons, hp e v', hl.all hp]

theorem hasB_eq : ∀ (l : List Nat) (n : Nat), nextEnt.hasB l n = l.contains n
  | [], n => rfl
  | x :: l, n => by
    simp only [nextEnt.hasB, hasB_eq l n, List.contains_cons]
    congr 1
    rw [Bool.eq_iff_iff]
    constructor
    · intro h
      have := Nat.eq_of_beq_eq_true h
      rw [this]
      exact beq_self_eq_true n
    · intro h
      have := eq_of_beq h
      rw [this]
      exact Nat.beq_refl x

theorem run_next_over {b bm : Nat} {w : World} {ty : TypeId} {since stepped clock : Nat} {seen : Array Nat} {es' : Array MapEntry}
    (hg : (getObj b).run P w = .ok (.mapIter (some bm) since seen stepped) w) (hgm : (getObj bm).run P w = .ok (.map es' clock) w)
    (hst : ¬ ((!seen.isEmpty && !es'.isEmpty && es'.all (·.born ≥ stepped)) = true))
    (hO : (es'.filter fun e => !seen.contains e.born).filter (·.born < since) = #[]) (hN : (es'.filter fun e => !seen.contains e.born).filter (·.born ≥ since) = #[]) :
    (Instr.next (.pointer (some ⟨b, 0, none⟩)) false ty).run P w = .ok (.tuple #[.bool false]) w := by
  simp only [Instr.next, Sem.run_bind, hg, hgm, Result.andThen, if_neg hst, hO, hN]
  simp [choose, Sem.run, Question.forced]

theorem run_next_one {b bm : Nat} {w : World} {ty : TypeId} {since stepped clock : Nat} {seen : Array Nat} {es' : Array MapEntry} {e : MapEntry}
    (hg : (getObj b).run P w = .ok (.mapIter (some bm) since seen stepped) w) (hgm : (getObj bm).run P w = .ok (.map es' clock) w)
    (hst : ¬ ((!seen.isEmpty && !es'.isEmpty && es'.all (·.born ≥ stepped)) = true))
    (hset : ∀ o, (setObj b o).run P w = .ok () { w with heap := w.heap.setIfInBounds b o })
    (hO : (es'.filter fun e => !seen.contains e.born).filter (·.born < since) = #[e]) (hN : (es'.filter fun e => !seen.contains e.born).filter (·.born ≥ since) = #[]) :
    (Instr.next (.pointer (some ⟨b, 0, none⟩)) false ty).run P w = .ok (.tuple #[.bool true, e.key, e.val]) { w with heap := w.heap.setIfInBounds b (.mapIter (some bm) since (seen.push e.born) clock) } := by
  simp only [Instr.next, Sem.run_bind, hg, hgm, Result.andThen, if_neg hst, hO, hN]
  simp [choose, Sem.run, Question.forced, hset]

theorem ERs.nil_of {l' : List MapEntry} (h : ERs m [] l') : l' = [] := by cases h; rfl
theorem ERs.one_of {e : MapEntry} {l' : List MapEntry} (h : ERs m [e] l') : ∃ v', closed e.key = true ∧ VR m e.val v' ∧ l' = [{ e with val := v' }] := by
  cases h with
  | cons hk h hl => cases hl; exact ⟨_, hk, h, rfl⟩

theorem sound_nextMap {i : Nat} {x' : Value} {ty : TypeId} {v : Value} {s s1 : St} {w : World} (hx : VR m (.pointer (some ⟨i, 0, none⟩)) x') (R : Rel B w0 m s.h w)
    (h : (aNextMap i).run s = some (v, s1)) : ∃ v' w', (Instr.next x' false ty).run P w = .ok v' w' ∧ Post B w0 m s.n v s1 v' w' := by
  cases hx with
  | ptr hm =>
    rename_i b f t'
    unfold aNextMap at h
    obtain ⟨row, hrow, h⟩ := run_rd h
    obtain ⟨b', f', t2, q1, q2, q3⟩ := R.row _ _ hrow
    rw [hm] at q1; cases q1
    cases row with
    | mapIter mo since seen stepped =>
      cases mo with
      | none =>
        dsimp only at h
        obtain ⟨q3, q4⟩ := q3
        subst q4
        have hg := run_getObj (P := P) q3 (by intro c e z hh; cases hh)
        obtain ⟨h1, h2⟩ := run_ret h
        subst h1 h2
        exact ⟨_, w, by simp [Instr.next, hg], .same R (.tuple (.cons (.bool _) .nil))⟩
      | some mi =>
        dsimp only at h
        obtain ⟨⟨bm, fm, tm, q5, q3⟩, q4⟩ := q3
        subst q4
        have hg := run_getObj (P := P) q3 (by intro c e z hh; cases hh)
        have hset : ∀ o, (setObj b o).run P w = .ok () { w with heap := w.heap.setIfInBounds b o } := fun o => run_setObj q3 (by intro c e z hh; cases hh)
        obtain ⟨row2, hrow2, h⟩ := run_rd h
        cases row2 with
        | map es clock =>
          dsimp only at h
          obtain ⟨b', f', t2, es', k1, k2, k3, k4, k5, k6⟩ := map_len R hrow2
          rw [q5] at k1; cases k1
          have hgm := run_getObj_map (P := P) k4
          have hers : ERs m es es'.toList := ERs.of_get k5 k6
          have hstop : ((!(⟨seen⟩ : Array Nat).isEmpty && !es'.isEmpty && es'.all (·.born ≥ stepped)) = true) ↔ ((!seen.isEmpty && !es.isEmpty && es.all (fun e => Nat.ble stepped e.born)) = true) := by
            have h1 : es'.isEmpty = es.isEmpty := isEmpty_of_length k5
            have h2 : es'.all (fun e => decide (e.born ≥ stepped)) = es.all (fun e => Nat.ble stepped e.born) := by
              rw [← Array.all_toList, ← hers.all (fun e v => rfl)]
              congr 1
              funext e
              rw [Bool.eq_iff_iff]
              simp [Nat.ble_eq]
            have h3 : (⟨seen⟩ : Array Nat).isEmpty = seen.isEmpty := isEmpty_of_length rfl
            rw [h1, h2, h3]
          have hp1 : (fun e : MapEntry => !(⟨seen⟩ : Array Nat).contains e.born) = fun e => !nextEnt.hasB seen e.born := by funext e; rw [hasB_eq]; simp
          have hp2 : (fun e : MapEntry => decide (e.born < since)) = fun e => Nat.blt e.born since := by funext e; rw [Bool.eq_iff_iff]; simp [Nat.blt_eq]
          have hp3 : (fun e : MapEntry => decide (e.born ≥ since)) = fun e => !Nat.blt e.born since := by
            funext e
            rw [show Nat.blt e.born since = decide (e.born < since) from (congrFun hp2 e).symm, ← decide_not]
            exact decide_eq_decide.2 (Nat.not_lt).symm
          have hold : ((es'.filter fun e => !(⟨seen⟩ : Array Nat).contains e.born).filter (·.born < since)).toList = (es'.toList.filter fun e => !nextEnt.hasB seen e.born).filter (fun e => Nat.blt e.born since) := by
            rw [hp1, hp2, Array.toList_filter, Array.toList_filter]
          have hnew : ((es'.filter fun e => !(⟨seen⟩ : Array Nat).contains e.born).filter (·.born ≥ since)).toList = (es'.toList.filter fun e => !nextEnt.hasB seen e.born).filter (fun e => !Nat.blt e.born since) := by
            rw [hp1, hp3, Array.toList_filter, Array.toList_filter]
          have ho := (hers.filter (p := fun e => !nextEnt.hasB seen e.born) (fun e v => rfl)).filter (p := fun e => Nat.blt e.born since) (fun e v => rfl)
          have hn := (hers.filter (p := fun e => !nextEnt.hasB seen e.born) (fun e v => rfl)).filter (p := fun e => !Nat.blt e.born since) (fun e v => rfl)
          rw [← hold] at ho
          rw [← hnew] at hn
          split at h
          · exact (run_fail h).elim
          · rename_i hne
            unfold nextEnt at hne
            split at hne
            · cases hne
            · rename_i hst
              have hst' : ¬ ((!(⟨seen⟩ : Array Nat).isEmpty && !es'.isEmpty && es'.all (·.born ≥ stepped)) = true) := by rw [hstop, hst]; simp
              split at hne
              · rename_i h1 h2
                rw [h1] at ho; rw [h2] at hn
                obtain ⟨g1, g2⟩ := run_ret h
                subst g1 g2
                exact ⟨_, w, run_next_over hg hgm hst' (Array.ext' ho.nil_of) (Array.ext' hn.nil_of), .same R (.tuple (.cons (.bool _) .nil))⟩
              · cases hne
              · cases hne
          · rename_i e hne
            unfold nextEnt at hne
            split at hne
            · cases hne
            · rename_i hst
              have hst' : ¬ ((!(⟨seen⟩ : Array Nat).isEmpty && !es'.isEmpty && es'.all (·.born ≥ stepped)) = true) := by rw [hstop, hst]; simp
              split at hne
              · cases hne
              · rename_i e0 h1 h2
                cases hne
                rw [h1] at ho; rw [h2] at hn
                obtain ⟨v1, hk, hv, hl⟩ := ho.one_of
                obtain ⟨_, h⟩ := run_wr h
                obtain ⟨g1, g2⟩ := run_ret h
                subst g1 g2
                refine ⟨_, _, run_next_one hg hgm hst' hset (Array.ext' hl) (Array.ext' hn.nil_of), .same (R.setObj hrow rfl rfl hm (lt_of_heap q3) ⟨⟨_, _, _, q5, ?_⟩, rfl⟩) (.tuple (.cons (.bool _) (.cons (VR.of_closed m _ hk) (.cons hv .nil))))⟩
                rw [heap_setObj (lt_of_heap q3)]
                simp
              · cases hne
        | _ => exact (run_fail h).elim
    | _ => exact (run_fail h).elim

theorem lastN_spec : ∀ {l : List Nat} {x : Nat}, lastN l = some x → l.getLast? = some x
  | [], _, h => by simp [lastN] at h
  | [y], _, h => by simp [lastN] at h; simp [h]
  | y :: z :: l, x, h => by
    have : lastN (z :: l) = some x := by simpa [lastN] using h
    rw [List.getLast?_cons_cons]
    exact lastN_spec this

theorem entBorn_rel : ∀ {l l' : List MapEntry} {n : Nat} {e : MapEntry}, ERs m l l' → entBorn l n = some e → ∃ v', closed e.key = true ∧ VR m e.val v' ∧ l'.find? (·.born == n) = some { e with val := v' }
  | _, _, n, e, .nil, h => by simp [entBorn] at h
  | _, _, n, e, @ERs.cons _ x v' l l' hk hv hl, h => by
    simp only [entBorn] at h
    split at h
    · rename_i hb
      cases h
      have := Nat.eq_of_beq_eq_true hb
      exact ⟨v', hk, hv, by simp [this]⟩
    · rename_i hb
      have := Nat.ne_of_beq_eq_false hb
      obtain ⟨v2, h1, h2, h3⟩ := entBorn_rel hl h
      exact ⟨v2, h1, h2, by simp [this, h3]⟩

theorem sound_entry {i : Nat} {x' : Value} {v : Value} {s s1 : St} {w : World} (hx : VR m (.pointer (some ⟨i, 0, none⟩)) x') (R : Rel B w0 m s.h w)
    (h : (aEntry i).run s = some (v, s1)) : ∃ v' w', (Instr.entry x').run P w = .ok v' w' ∧ Post B w0 m s.n v s1 v' w' := by
  cases hx with
  | ptr hm =>
    rename_i b f t'
    unfold aEntry at h
    obtain ⟨row, hrow, h⟩ := run_rd h
    obtain ⟨b', f', t2, q1, q2, q3⟩ := R.row _ _ hrow
    rw [hm] at q1; cases q1
    cases row with
    | mapIter mo since seen stepped =>
      cases mo with
      | none => exact (run_fail h).elim
      | some mi =>
        dsimp only at h
        obtain ⟨⟨bm, fm, tm, q5, q3⟩, q4⟩ := q3
        subst q4
        have hg := run_getObj (P := P) q3 (by intro c e z hh; cases hh)
        split at h
        · exact (run_fail h).elim
        · rename_i st hst
          have hst := lastN_spec hst
          obtain ⟨row2, hrow2, h⟩ := run_rd h
          cases row2 with
          | map es clock =>
            dsimp only at h
            obtain ⟨b', f', t2, es', k1, k2, k3, k4, k5, k6⟩ := map_len R hrow2
            rw [q5] at k1; cases k1
            have hgm := run_getObj_map (P := P) k4
            have hers : ERs m es es'.toList := ERs.of_get k5 k6
            split at h
            · rename_i e hcl he
              have hcl := Nat.eq_of_beq_eq_true hcl
              obtain ⟨g1, g2⟩ := run_ret h
              subst g1 g2
              obtain ⟨v2, hk, hv, hf⟩ := entBorn_rel hers he
              rw [Array.find?_toList] at hf
              have hb : (⟨seen⟩ : Array Nat).back? = some st := by rw [← Array.getLast?_toList]; exact hst
              subst hcl
              refine ⟨_, w, ?_, .same R (.tuple (.cons (VR.of_closed m _ hk) (.cons hv .nil)))⟩
              simp only [Instr.entry, Sem.run_bind, hg, hgm, Result.andThen, hb, bne_self_eq_false, Bool.false_eq_true, if_false, hf, Nat.zero_add]
              rfl
            · exact (run_fail h).elim
          | _ => exact (run_fail h).elim
    | _ => exact (run_fail h).elim

end
end Go.Ax
