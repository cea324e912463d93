/- Quotes: Add, of both sides. -/
import Derived.Test.YtefogennhgacjaaGreatQtH
namespace Go.Proofs.Qt
open Go Go.Ax Go.Proofs
set_option maxRecDepth 100000
set_option linter.unusedSimpArgs false
set_option linter.unusedVariables false

def addL (l : List Qo) (q : Qo) : List Qo := if chk l q = 0 then l ++ [q] else l

/-- (*Board).Add -/
theorem call10 {s : St} {ib i : Nat} {vb : Value} {l : List Qo} (hb : s.h.get ib = some (.cells [vb, .bool true])) (hib : ib < s.n) (h : Bq s vb l i) (hne : i ≠ ib) (hsm : l.length ≤ 900) (q : Qo) :
    CallA Tryz.prog Tryz.tab 10 [ptr ib 0, q.val] s fun v s' => v = .int .i64 (chk l q) ∧ ∃ vb' i', s'.h.get ib = some (.cells [vb', .bool true]) ∧ Bq s' vb' (addL l q) i' ∧ (i' = i ∨ s.n ≤ i') ∧ i' ≠ ib ∧ Quiet [i, ib] s s' := by
  have hi0 := h.1
  refine callA_q fun Q hQ => ?_
  refine callA_of (fn := Tryz.f10) (n := 22) (rs := [.tmp 4]) (by kernel_rfl) rfl rfl rfl (by simp) ?_
  simp
  have q0 : Quiet [] s ((s.nw (.cells q.enc)).rdl s.n) := ((Quiet.refl _ _).nw _).rdl _
  refine callB (call22 (vb := vb) (i := i) (l := l) (by simp [Nat.ne_of_lt hib, hb]) (by simp; omega) (h.move q0 (by simp)) (by omega) q) ?_
  rintro v s1 ⟨rfl, q1'⟩
  have q1 : Quiet [] s s1 := q0.trans q1'
  have hbox : s1.h.get s.n = some (.cells q.enc) := by rw [q1'.keep s.n (by simp) (by simp)]; simp
  have hb1 : s1.h.get ib = some (.cells [vb, .bool true]) := by rw [q1.keep ib hib (by simp)]; exact hb
  have m1 := q1'.n
  simp at m1
  simp
  refine testB (fun e => ?_) (fun e => ?_)
  · simp at e
    simp
    refine drwB' (prs := [[], [], [1], [2, 1], [3, 2, 1], [], [5], [4, 3, 2, 1, 6, 5], [0, 0, 1, 2, 1, 3, 2, 1, 4, 3, 2, 1, 5, 6, 5, 7, 4, 3, 2, 1, 6, 5], [8, 0, 0, 1, 2, 1, 3, 2, 1, 4, 3, 2, 1, 5, 6, 5, 7, 4, 3, 2, 1, 6, 5, 0, 1, 2, 1, 3, 2, 1, 4, 3, 2, 1, 5, 6, 5, 7, 4, 3, 2, 1, 6, 5], [9, 8, 0, 0, 1, 2, 1, 3, 2, 1, 4, 3, 2, 1, 5, 6, 5, 7, 4, 3, 2, 1, 6, 5, 0, 1, 2, 1, 3, 2, 1, 4, 3, 2, 1, 5, 6, 5, 7, 4, 3, 2, 1, 6, 5, 7, 4, 3, 2, 1, 6, 5, 7, 4, 3, 2, 1, 6, 5, 0, 1, 2, 1, 3, 2, 1, 4, 3, 2, 1, 5, 6, 5, 7, 4, 3, 2, 1, 6, 5]]) (by kernel_rfl) ?_
    simp [hb1, hbox]
    refine buildSlice1_ok t25 z29 rfl (cellsOf_val _) rfl rfl (by decide) fun v6 s6 h6 q6 n6 l6 => ?_
    dsimp only at h6 n6
    simp
    have w6 := q6.wl
    simp at w6
    refine mayB_step ⟨by simp, fun x hx => ?_, by simp⟩ ?_
    · have := w6 x hx
      simp; omega
    simp
    have k6 : Keep [] s1 ⟨s6.h, s6.n, [], []⟩ := q6.k rfl rfl
    have hs : Sq ⟨s6.h, s6.n, [], []⟩ vb l i := Sl.moveK (h.move q1 (by simp)).sq k6 (by simp)
    refine append_ok t25 t25.1 hs (Sl.src (Sl.eqv (s' := ⟨s6.h, s6.n, [], []⟩) h6 rfl rfl)) (plains_flat _) rfl (by omega) fun v7 s7 i7 h7 q7 c7 nn fr op rr => ?_
    dsimp only at c7 fr
    have op := op (by omega)
    have m7 := q7.n
    dsimp only at m7
    have hb7 : s7.h.get ib = some (.cells [vb, .bool true]) := by
      rw [q7.keep ib (by simp; omega) (by simp; omega)]
      show s6.h.get ib = _
      rw [q6.keep ib (by simp; omega) (by simp)]; exact hb1
    simp [hb7, op]
    rcases h7.2 with ⟨x, _⟩ | ⟨hi7, _, r7, hr7⟩
    · exact absurd x (nn (.inr (by omega)))
    have hne7 : i7 ≠ ib := by rcases c7 with rfl | c7 <;> omega
    refine hQ _ _ ⟨rfl, openSl i7 0 8 (l.length + 1), i7, by simp, ?_, by rcases c7 with rfl | c7 <;> omega, hne7, ?_⟩
    · unfold addL
      rw [if_pos e]
      refine ⟨by simpa using hi7, .inr ⟨by simp, r7, ?_⟩⟩
      simp [hne7, flat_append, flat_one, hr7]
    · have a6 : Quiet [i, ib] _ s6 := q6.nil
      have a7 : Quiet [i, ib] _ s7 := q7.sub fun k hk => .inl (by simp at hk; simp [hk])
      have a8 : Quiet [i, ib] ⟨s7.h, s7.n, [], []⟩ ((St.rdl ⟨s7.h, s7.n, [], []⟩ ib).wrl ib (.cells [openSl i7 0 8 (l.length + 1), .bool true])) := ((Quiet.refl _ _).rdl _).wrl _ _ (.inl (by simp))
      refine Quiet.trans q1.nil (DQ.fin ?_)
      repeat (first | exact DQ.nil _ _ | refine DQ.skip ?_ _ _ _ | refine DQ.step ?_ a6 _ _ _ | refine DQ.step ?_ a7 _ _ _ | refine DQ.step ?_ a8 _ _ _)
  · simp at e
    simp
    refine hQ _ _ ⟨rfl, vb, i, hb1, ?_, .inl rfl, hne, q1.nil⟩
    unfold addL
    rw [if_neg e]
    exact h.move q1 (by simp)

/-- lombardref21.Add -/
theorem call23 {s : St} {i : Nat} {v : Value} {l : List Qo} (h : Sq s v l i) (hi : i < s.n) (hsm : l.length ≤ 900) (q : Qo) :
    CallA Tryz.prog Tryz.tab 23 [v, q.val] s fun r s' => ∃ v' i', r = .tuple (List.toArray [v', .int .i64 (chk l q)]) ∧ Sq s' v' (addL l q) i' ∧ i' < s'.n ∧ (i' = i ∧ v' = v ∨ s.n ≤ i') ∧ Quiet [] s s' := by
  refine callA_q fun Q hQ => ?_
  refine callA_of (fn := Tryz.f23) (n := 20) (rs := [.tmp 4, .tmp 5]) (by kernel_rfl) rfl rfl rfl (by simp) ?_
  simp
  have q0 : Quiet [] s ((s.nw (.cells q.enc)).rdl s.n) := ((Quiet.refl _ _).nw _).rdl _
  refine callB (call21 (h.move q0 (by simp)) (by omega) q) ?_
  rintro v1 s1 ⟨rfl, q1'⟩
  have q1 : Quiet [] s s1 := q0.trans q1'
  have hbox : s1.h.get s.n = some (.cells q.enc) := by rw [q1'.keep s.n (by simp) (by simp)]; simp
  have m1 := q1'.n
  simp at m1
  simp
  refine testB (fun e => ?_) (fun e => ?_)
  · simp at e
    simp [hbox]
    refine callB (call21 (s := s1.rdl s.n) (Sq.move h (q1.rdl _) (by simp)) (by omega) q) ?_
    rintro v2 s2 ⟨rfl, q2⟩
    simp
    have q3 : Quiet [] s s2 := (q1.rdl _).trans q2
    refine hQ _ _ ⟨v, i, rfl, ?_, Nat.lt_of_lt_of_le hi q3.n, .inl ⟨rfl, rfl⟩, q3⟩
    unfold addL
    rw [if_neg e]
    exact h.move q3 (by simp)
  · simp at e
    simp
    refine drwB' (prs := [[], [], [0, 1], [], [3], [2, 0, 1, 4, 3, 2, 0, 1], [5, 2, 0, 1, 4, 3, 2, 0, 1, 5, 2, 0, 1, 4, 3, 2, 0, 1, 0, 1, 2, 0, 1, 3, 4, 3, 5, 2, 0, 1, 4, 3, 2, 0, 1], [6, 5, 2, 0, 1, 4, 3, 2, 0, 1, 5, 2, 0, 1, 4, 3, 2, 0, 1, 0, 1, 2, 0, 1, 3, 4, 3, 5, 2, 0, 1, 4, 3, 2, 0, 1, 0, 1, 2, 0, 1, 3, 4, 3, 5, 2, 0, 1, 4, 3, 2, 0, 1, 6, 5, 2, 0, 1, 4, 3, 2, 0, 1, 5, 2, 0, 1, 4, 3, 2, 0, 1, 0, 1, 2, 0, 1, 3, 4, 3, 5, 2, 0, 1, 4, 3, 2, 0, 1]]) (by kernel_rfl) ?_
    simp
    refine buildSlice0_ok t25 z29 rfl fun v0 s2 h2 _ q2 n2 l2 => ?_
    dsimp only at h2 n2
    simp
    have w2 := q2.wl
    simp at w2
    have k2 : Keep [] s1 ⟨s2.h, s2.n, [], []⟩ := q2.k rfl rfl
    have hs : Sq ⟨s2.h, s2.n, [], []⟩ v l i := Sl.moveK (Sl.move h q1 (by simp)) k2 (by simp)
    refine append_ok t25 t25.1 (Sl.eqv (s' := ⟨s2.h, s2.n, [], []⟩) h2 rfl rfl) (Sl.src hs) rfl (plains_flat _) (by omega) fun v3 s3 i3 h3 q3 c3 _ _ _ r3 => ?_
    dsimp only at c3 r3
    have m3 := q3.n
    dsimp only at m3
    have w3 := q3.wl
    simp at w3 r3
    have hbox3 : s3.h.get s.n = some (.cells q.enc) := by
      rw [q3.keep s.n (by simp; omega) (by simp; omega)]
      show s2.h.get s.n = _
      rw [q2.keep s.n (by simp; omega) (by simp)]; exact hbox
    simp [hbox3]
    refine mayB_step ⟨fun x hx => ?_, by simp, by simp⟩ ?_
    · have := w3 x hx
      simp; omega
    simp
    refine mayB_step ⟨fun x hx => ?_, by simp, by simp⟩ ?_
    · have := w2 x hx
      simp; omega
    simp
    refine buildSlice1_ok t25 z29 rfl (cellsOf_val _) rfl rfl (by decide) fun v4 s4 h4 q4 n4 l4 => ?_
    dsimp only at h4 n4 l4
    have m4 := q4.n
    dsimp only at m4
    simp [l4.1, l4.2, l2.1, l2.2]
    refine mayB_step ⟨by simp, fun x hx => ?_, fun x hx => ?_⟩ ?_
    · simp at hx; subst hx
      intro hy; have := r3.1 _ hy; omega
    · intro hy; simp at hy; subst hy
      have := r3.2 _ hx; omega
    simp
    refine mayB_step ⟨by simp, by simp, fun x hx => ?_⟩ ?_
    · simp at hx; subst hx; simp; omega
    simp
    have k4 : Keep [] ⟨s3.h, s3.n, [], []⟩ ⟨s4.h, s4.n, [], []⟩ := q4.k rfl rfl
    have h3' : Sl ⟨s4.h, s4.n, [], []⟩ v3 8 (0 + l.length) ([] ++ flat l) i3 := Sl.moveK (Sl.eqv (s' := ⟨s3.h, s3.n, [], []⟩) h3 rfl rfl) k4 (by simp)
    refine append_ok t25 t25.1 h3' (Sl.src (Sl.eqv (s' := ⟨s4.h, s4.n, [], []⟩) h4 rfl rfl)) (by simp) rfl (by omega) fun v5 s5 i5 h5 q5 c5 nn5 _ op5 r5 => ?_
    dsimp only at c5
    have m5 := q5.n
    dsimp only at m5
    simp
    have hi5 : i5 < s5.n := by
      rcases h5.2 with ⟨x, _⟩ | ⟨x, _⟩
      · exact absurd x (nn5 (.inr (by omega)))
      · exact x
    refine hQ _ _ ⟨v5, i5, by simp [e], ?_, hi5, .inr (by rcases c5 with rfl | c5 <;> rcases c3 with rfl | c3 <;> omega), ?_⟩
    · unfold addL
      rw [if_pos e]
      exact Sq.mk' (Sl.eqv h5 rfl rfl) (by simp [flat_append, flat_one]) (by simp)
    · have a2 : Quiet [s1.n, i3] _ s2 := q2.nil
      have a3 : Quiet [s1.n, i3] _ s3 := q3.sub fun k hk => .inl (by simp at hk; simp [hk])
      have a4 : Quiet [s1.n, i3] _ s4 := q4.nil
      have a5 : Quiet [s1.n, i3] _ s5 := q5.sub fun k hk => .inl (by simp at hk; simp [hk])
      have fin : Quiet [s1.n, i3] s1 _ := DQ.fin (DQ.skip (DQ.skip (DQ.step (DQ.step (DQ.skip (DQ.step (DQ.skip (DQ.step (DQ.nil [s1.n, i3] s1) a2 0 [] s2.rl) 1 [] []) a3 2 [0, 1] s3.rl) 3 [] [s.n]) a4 4 [3] s4.rl) a5 5 [2, 0, 1, 4, 3, 2, 0, 1] s5.rl) 6 [5, 2, 0, 1, 4, 3, 2, 0, 1, 5, 2, 0, 1, 4, 3, 2, 0, 1, 0, 1, 2, 0, 1, 3, 4, 3, 5, 2, 0, 1, 4, 3, 2, 0, 1] []) 7 [6, 5, 2, 0, 1, 4, 3, 2, 0, 1, 5, 2, 0, 1, 4, 3, 2, 0, 1, 0, 1, 2, 0, 1, 3, 4, 3, 5, 2, 0, 1, 4, 3, 2, 0, 1, 0, 1, 2, 0, 1, 3, 4, 3, 5, 2, 0, 1, 4, 3, 2, 0, 1, 6, 5, 2, 0, 1, 4, 3, 2, 0, 1, 5, 2, 0, 1, 4, 3, 2, 0, 1, 0, 1, 2, 0, 1, 3, 4, 3, 5, 2, 0, 1, 4, 3, 2, 0, 1] [])
      refine (Quiet.trans q1.nil (Quiet.mk fin.n fin.keep ?_) : Quiet [s1.n, i3] s _).sub fun k hk => .inr (by simp at hk; rcases hk with rfl | rfl <;> rcases c3 with rfl | c3 <;> omega)
      intro k hk
      refine fin.wl k ?_
      simpa [logW, l2.2, l4.2] using hk
end Go.Proofs.Qt
