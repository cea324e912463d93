/- Quotes: the document's Drop. -/
import Derived.Test.YtefogennhgacjaaGreatQtE
namespace Go.Proofs.Qt
open Go Go.Ax Go.Proofs
set_option maxRecDepth 100000
set_option linter.unusedSimpArgs false
set_option linter.unusedVariables false

abbrev nilS : Value := .slice none 0 0

theorem Sl.move' {s s' : St} {v : Value} {sz n i : Nat} {cs : List Value} {W : List Nat} (h : Sl s v sz n cs i) (q : Quiet W s s') (hi : v ≠ nilS → i ∉ W) : Sl s' v sz n cs i := by
  refine ⟨h.1, ?_⟩
  rcases h.2 with h | ⟨h1, h2, r, h3⟩
  · exact .inl h
  · refine .inr ⟨Nat.lt_of_lt_of_le h1 q.n, h2, r, ?_⟩
    rw [q.keep i h1 (hi ?_)]
    · exact h3
    · obtain ⟨sp, cap, rfl, _⟩ := h2
      simp
theorem Sl.lt {s : St} {v : Value} {sz n i : Nat} {cs : List Value} (h : Sl s v sz n cs i) (hv : v ≠ nilS) : i < s.n := by
  rcases h.2 with ⟨h, _⟩ | ⟨h, _⟩
  · exact absurd h hv
  · exact h

def dropP (m d : Int) (q : Qo) : Bool := (decide (0 < m) && decide (q.member = m)) || decide (q.start < d)

def I26 (s : St) (v : Value) (l : List Qo) (m d : Int) (k : Nat) (f : AF) (s2 : St) : Prop :=
  f.n = 54 ∧ f.get 0 = v ∧ f.get 1 = .int .i64 m ∧ f.get 2 = .int .i64 d ∧ ∃ (j : Nat) (vo vi : Value) (io ii : Nat), k = l.length - j ∧ j ≤ l.length ∧ f.get 10 = .int .i64 (j : Int) ∧ f.get 8 = vo ∧ f.get 9 = vi ∧
    Sq s2 vo ((l.take j).filter fun q => !dropP m d q) io ∧ Si s2 vi (((l.take j).filter (dropP m d)).map (·.id)) ii ∧ s.n ≤ io ∧ s.n ≤ ii ∧ (vo ≠ nilS → vi ≠ nilS → io ≠ ii) ∧ Quiet [] s s2

/-- lombardref21.Drop -/
theorem call26 {s : St} {v : Value} {l : List Qo} {i : Nat} (h : Sq s v l i) (hsm : l.length ≤ 1000) (m d : Int) :
    CallA Tryz.prog Tryz.tab 26 [v, .int .i64 m, .int .i64 d] s fun r s' => ∃ vo vi io ii, r = .tuple (List.toArray [vo, vi]) ∧ Sq s' vo (l.filter fun q => !dropP m d q) io ∧ Si s' vi ((l.filter (dropP m d)).map (·.id)) ii ∧ s.n ≤ io ∧ s.n ≤ ii ∧ Quiet [] s s' := by
  refine callA_q fun Q hQ => ?_
  refine callA_of (fn := Tryz.f26) (n := 54) (rs := [.tmp 6, .tmp 7]) (by kernel_rfl) rfl rfl rfl (by simp) ?_
  simp
  refine loopB (I26 s v l m d) ?_ (k := l.length) ?_
  · rintro k f s2 ⟨hn, h0, h1, h2, j, vo, vi, io, ii, hk, hj, h10, h8, h9, hso, hsi, hio, hii, hne, hq⟩
    have hv := h.move hq (by simp)
    simp [hn, h0, h1, h2, h10, hv.len]
    refine testB (fun t => ?_) (fun t => ?_)
    · have hj' : j < l.length := by simpa using t
      obtain ⟨hi1, r, hr⟩ := hv.row hj'
      have htk : ∀ p : Qo → Bool, (l.take (j + 1)).filter p = (l.take j).filter p ++ (if p l[j] then [l[j]] else []) := by
        intro p
        rw [List.take_succ_eq_append_getElem hj', List.filter_append]
        cases hp : p l[j] <;> simp [hp]
      have hfl := List.length_filter_le (dropP m d) (l.take j)
      have hfl2 := List.length_filter_le (fun q => !dropP m d q) (l.take j)
      simp at hfl hfl2
      simp [hn, h0, h1, h2, h10]
      refine testB (fun t1 => ?_) (fun t1 => ?_)
      · simp [hn, h0, h1, h2, h10, hv.ia j hj', hr, hj']
        refine testB (fun t2 => ?_) (fun t2 => ?_)
        · simp [hn, h0, h1, h2, h10, h8, h9, hv.ia j hj', hr, hj']
          have hd : dropP m d l[j] = true := by simp at t1 t2; simp [dropP, t1, t2]
          refine buildSlice1_ok t42 z3 rfl rfl rfl rfl (by decide) fun v6 s6 h6 q7 n6 _ => ?_
          simp [hn, h0, h1, h2, h10, h8, h9]
          have q67 : Quiet [] s2 s6 := Quiet.trans (by repeat (first | exact Quiet.refl _ _ | apply Quiet.rdl)) q7
          have m67 := q67.n
          have m2 := hq.n
          obtain ⟨i8, hs8, hi8, hn8⟩ : ∃ i8, Si s6 vi (((l.take j).filter (dropP m d)).map (·.id)) i8 ∧ s.n ≤ i8 ∧ (vo ≠ nilS → io ≠ i8) := by
            by_cases hv0 : vi = nilS
            · refine ⟨s6.n, ?_, by omega, fun h => by have := Sl.lt hso h; omega⟩
              rcases (Sl.move hsi q67 (by simp)).2 with x | ⟨_, ⟨_, _, x, _⟩, _⟩
              · exact ⟨hsi.1, .inl x⟩
              · rw [hv0] at x; cases x
            · exact ⟨ii, Sl.move hsi q67 (by simp), hii, fun h => hne h hv0⟩
          refine append_ok t42 t42.1 hs8 (Sl.src h6) (plains_map _) rfl (by simp; omega) fun v7 s7 i7 h7 q8 c7 nn fr _ _ => ?_
          simp [hn, h0, h1, h2, h10, h8, h9]
          refine ⟨l.length - (j + 1), by omega, by simp [hn], by simp [h0], by simp [h1], by simp [h2], j + 1, vo, v7, io, i7, rfl, by omega, by simp [h10, wrap_succ (show j < 1000000 by omega)], by simp [h8], by simp, ?_, ?_, hio, by rcases c7 with rfl | c7 <;> omega, ?_, ?_⟩
          · rw [htk, hd]
            simp
            exact Sl.move' (Sl.move hso q67 (by simp)) q8 fun h => by simpa using hn8 h
          · rw [htk, hd]
            simpa [Si] using h7
          · intro h _
            rcases c7 with rfl | c7
            · exact hn8 h
            · have := Sl.lt hso h; omega
          · exact (hq.trans q67).then q8 hi8
        · simp [hn, h0, h1, h2, h10, hv.ia j hj', hr, hj']
          refine testB (fun t3 => ?_) (fun t3 => ?_)
          · simp [hn, h0, h1, h2, h10, h8, h9, hv.ia j hj', hr, hj']
            have hd : dropP m d l[j] = true := by simp at t3; simp [dropP, t3]
            refine buildSlice1_ok t42 z3 rfl rfl rfl rfl (by decide) fun v6 s6 h6 q7 n6 _ => ?_
            simp [hn, h0, h1, h2, h10, h8, h9]
            have q67 : Quiet [] s2 s6 := Quiet.trans (by repeat (first | exact Quiet.refl _ _ | apply Quiet.rdl)) q7
            have m67 := q67.n
            have m2 := hq.n
            obtain ⟨i8, hs8, hi8, hn8⟩ : ∃ i8, Si s6 vi (((l.take j).filter (dropP m d)).map (·.id)) i8 ∧ s.n ≤ i8 ∧ (vo ≠ nilS → io ≠ i8) := by
              by_cases hv0 : vi = nilS
              · refine ⟨s6.n, ?_, by omega, fun h => by have := Sl.lt hso h; omega⟩
                rcases (Sl.move hsi q67 (by simp)).2 with x | ⟨_, ⟨_, _, x, _⟩, _⟩
                · exact ⟨hsi.1, .inl x⟩
                · rw [hv0] at x; cases x
              · exact ⟨ii, Sl.move hsi q67 (by simp), hii, fun h => hne h hv0⟩
            refine append_ok t42 t42.1 hs8 (Sl.src h6) (plains_map _) rfl (by simp; omega) fun v7 s7 i7 h7 q8 c7 nn fr _ _ => ?_
            simp [hn, h0, h1, h2, h10, h8, h9]
            refine ⟨l.length - (j + 1), by omega, by simp [hn], by simp [h0], by simp [h1], by simp [h2], j + 1, vo, v7, io, i7, rfl, by omega, by simp [h10, wrap_succ (show j < 1000000 by omega)], by simp [h8], by simp, ?_, ?_, hio, by rcases c7 with rfl | c7 <;> omega, ?_, ?_⟩
            · rw [htk, hd]
              simp
              exact Sl.move' (Sl.move hso q67 (by simp)) q8 fun h => by simpa using hn8 h
            · rw [htk, hd]
              simpa [Si] using h7
            · intro h _
              rcases c7 with rfl | c7
              · exact hn8 h
              · have := Sl.lt hso h; omega
            · exact (hq.trans q67).then q8 hi8
          · simp [hn, h0, h1, h2, h10, h8, h9, hv.ia j hj', hr, hj']
            have hd : dropP m d l[j] = false := by simp at t2 t3; simp [dropP, t2, t3]
            refine buildSlice1_ok t25 z29 rfl (cellsOf_val _) rfl rfl (by decide) fun v6 s6 h6 q7 n6 _ => ?_
            simp [hn, h0, h1, h2, h10, h8, h9]
            have q67 : Quiet [] s2 s6 := Quiet.trans (by repeat (first | exact Quiet.refl _ _ | apply Quiet.rdl)) q7
            have m67 := q67.n
            have m2 := hq.n
            obtain ⟨i8, hs8, hi8, hn8⟩ : ∃ i8, Sq s6 vo ((l.take j).filter fun q => !dropP m d q) i8 ∧ s.n ≤ i8 ∧ (vi ≠ nilS → i8 ≠ ii) := by
              by_cases hv0 : vo = nilS
              · refine ⟨s6.n, ?_, by omega, fun h => by have := Sl.lt hsi h; omega⟩
                rcases (Sl.move hso q67 (by simp)).2 with x | ⟨_, ⟨_, _, x, _⟩, _⟩
                · exact ⟨hso.1, .inl x⟩
                · rw [hv0] at x; cases x
              · exact ⟨io, Sl.move hso q67 (by simp), hio, fun h => hne hv0 h⟩
            refine append_ok t25 t25.1 hs8 (Sl.src h6) (plains_flat _) rfl (by simp; omega) fun v7 s7 i7 h7 q8 c7 nn fr _ _ => ?_
            simp [hn, h0, h1, h2, h10, h8, h9]
            refine ⟨l.length - (j + 1), by omega, by simp [hn], by simp [h0], by simp [h1], by simp [h2], j + 1, v7, vi, i7, ii, rfl, by omega, by simp [h10, wrap_succ (show j < 1000000 by omega)], by simp, by simp [h9], ?_, ?_, by rcases c7 with rfl | c7 <;> omega, hii, ?_, ?_⟩
            · refine Sq.mk' h7 ?_ ?_
              · rw [htk, hd]; simp [flat_append, flat]
              · rw [htk, hd]; simp
            · rw [htk, hd]
              simp
              exact Sl.move' (Sl.move hsi q67 (by simp)) q8 fun h => by simpa using (hn8 h).symm
            · intro _ h
              rcases c7 with rfl | c7
              · exact hn8 h
              · have := Sl.lt hsi h; omega
            · exact (hq.trans q67).then q8 hi8
      · simp [hn, h0, h1, h2, h10, hv.ia j hj', hr, hj']
        refine testB (fun t3 => ?_) (fun t3 => ?_)
        · simp [hn, h0, h1, h2, h10, h8, h9, hv.ia j hj', hr, hj']
          have hd : dropP m d l[j] = true := by simp at t3; simp [dropP, t3]
          refine buildSlice1_ok t42 z3 rfl rfl rfl rfl (by decide) fun v6 s6 h6 q7 n6 _ => ?_
          simp [hn, h0, h1, h2, h10, h8, h9]
          have q67 : Quiet [] s2 s6 := Quiet.trans (by repeat (first | exact Quiet.refl _ _ | apply Quiet.rdl)) q7
          have m67 := q67.n
          have m2 := hq.n
          obtain ⟨i8, hs8, hi8, hn8⟩ : ∃ i8, Si s6 vi (((l.take j).filter (dropP m d)).map (·.id)) i8 ∧ s.n ≤ i8 ∧ (vo ≠ nilS → io ≠ i8) := by
            by_cases hv0 : vi = nilS
            · refine ⟨s6.n, ?_, by omega, fun h => by have := Sl.lt hso h; omega⟩
              rcases (Sl.move hsi q67 (by simp)).2 with x | ⟨_, ⟨_, _, x, _⟩, _⟩
              · exact ⟨hsi.1, .inl x⟩
              · rw [hv0] at x; cases x
            · exact ⟨ii, Sl.move hsi q67 (by simp), hii, fun h => hne h hv0⟩
          refine append_ok t42 t42.1 hs8 (Sl.src h6) (plains_map _) rfl (by simp; omega) fun v7 s7 i7 h7 q8 c7 nn fr _ _ => ?_
          simp [hn, h0, h1, h2, h10, h8, h9]
          refine ⟨l.length - (j + 1), by omega, by simp [hn], by simp [h0], by simp [h1], by simp [h2], j + 1, vo, v7, io, i7, rfl, by omega, by simp [h10, wrap_succ (show j < 1000000 by omega)], by simp [h8], by simp, ?_, ?_, hio, by rcases c7 with rfl | c7 <;> omega, ?_, ?_⟩
          · rw [htk, hd]
            simp
            exact Sl.move' (Sl.move hso q67 (by simp)) q8 fun h => by simpa using hn8 h
          · rw [htk, hd]
            simpa [Si] using h7
          · intro h _
            rcases c7 with rfl | c7
            · exact hn8 h
            · have := Sl.lt hso h; omega
          · exact (hq.trans q67).then q8 hi8
        · simp [hn, h0, h1, h2, h10, h8, h9, hv.ia j hj', hr, hj']
          have hd : dropP m d l[j] = false := by simp at t1 t3; simp [dropP, t3]; omega
          refine buildSlice1_ok t25 z29 rfl (cellsOf_val _) rfl rfl (by decide) fun v6 s6 h6 q7 n6 _ => ?_
          simp [hn, h0, h1, h2, h10, h8, h9]
          have q67 : Quiet [] s2 s6 := Quiet.trans (by repeat (first | exact Quiet.refl _ _ | apply Quiet.rdl)) q7
          have m67 := q67.n
          have m2 := hq.n
          obtain ⟨i8, hs8, hi8, hn8⟩ : ∃ i8, Sq s6 vo ((l.take j).filter fun q => !dropP m d q) i8 ∧ s.n ≤ i8 ∧ (vi ≠ nilS → i8 ≠ ii) := by
            by_cases hv0 : vo = nilS
            · refine ⟨s6.n, ?_, by omega, fun h => by have := Sl.lt hsi h; omega⟩
              rcases (Sl.move hso q67 (by simp)).2 with x | ⟨_, ⟨_, _, x, _⟩, _⟩
              · exact ⟨hso.1, .inl x⟩
              · rw [hv0] at x; cases x
            · exact ⟨io, Sl.move hso q67 (by simp), hio, fun h => hne hv0 h⟩
          refine append_ok t25 t25.1 hs8 (Sl.src h6) (plains_flat _) rfl (by simp; omega) fun v7 s7 i7 h7 q8 c7 nn fr _ _ => ?_
          simp [hn, h0, h1, h2, h10, h8, h9]
          refine ⟨l.length - (j + 1), by omega, by simp [hn], by simp [h0], by simp [h1], by simp [h2], j + 1, v7, vi, i7, ii, rfl, by omega, by simp [h10, wrap_succ (show j < 1000000 by omega)], by simp, by simp [h9], ?_, ?_, by rcases c7 with rfl | c7 <;> omega, hii, ?_, ?_⟩
          · refine Sq.mk' h7 ?_ ?_
            · rw [htk, hd]; simp [flat_append, flat]
            · rw [htk, hd]; simp
          · rw [htk, hd]
            simp
            exact Sl.move' (Sl.move hsi q67 (by simp)) q8 fun h => by simpa using (hn8 h).symm
          · intro _ h
            rcases c7 with rfl | c7
            · exact hn8 h
            · have := Sl.lt hsi h; omega
          · exact (hq.trans q67).then q8 hi8
    · have hj' : j = l.length := by simp at t; omega
      subst hj'
      simp [hn, h0, h1, h2, h10, h8, h9]
      simp at hso hsi
      exact hQ _ _ ⟨vo, vi, io, ii, rfl, hso, hsi, hio, hii, hq⟩
  · exact ⟨by simp, by simp, by simp, by simp, 0, nilS, nilS, s.n, s.n, by simp, by simp, by simp, by simp, by simp, Sl.nil _ _ _, Sl.nil _ _ _, Nat.le_refl _, Nat.le_refl _, fun h => absurd rfl h, .refl _ _⟩
end Go.Proofs.Qt
