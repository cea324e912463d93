/- Quotes: finding one; without one. -/
import Derived.Test.YtefogennhgacjaaGreatQtB
namespace Go.Proofs.Qt
open Go Go.Ax Go.Proofs
set_option maxRecDepth 100000
set_option linter.unusedSimpArgs false
set_option linter.unusedVariables false

/-- lombardref21.Find -/
theorem call46 {s : St} {v : Value} {l : List Qo} {i : Nat} (h : Sq s v l i) (hsm : l.length ≤ 1000) (id : Int) :
    CallA Tryz.prog Tryz.tab 46 [v, .int .i64 id] s fun v s' => Idx (fun q => decide (q.id = id)) l v ∧ Quiet [] s s' := by
  refine callA_of (fn := Tryz.f46) (n := 20) (rs := [.tmp 4]) (by kernel_rfl) rfl rfl rfl (by simp) ?_
  simp
  refine loopB (fun k f s1 => f.n = 20 ∧ f.get 0 = v ∧ f.get 1 = .int .i64 id ∧
    ∃ j : Nat, k = l.length - j ∧ j ≤ l.length ∧ f.get 5 = .int .i64 j ∧ (∀ m (hm : m < l.length), m < j → decide (l[m].id = id) = false) ∧ Quiet [] s s1) ?_ (k := l.length) ?_
  · rintro k f s1 ⟨hn, h0, h1, j, hk, hjl, h5, hall, hq⟩
    have h' := h.move hq (by simp)
    simp [hn, h0, h1, h5, h.len]
    refine testB (fun t => ?_) (fun t => ?_)
    · have hj : j < l.length := by simpa using t
      obtain ⟨hi, r, hr⟩ := h'.row hj
      simp [hn, h0, h1, h5, h'.ia j hj, hr, hj]
      refine testB (fun t => ?_) (fun t => ?_)
      · simp [hn, h0, h1, h5]
        exact ⟨.inl ⟨j, rfl, hj, t, fun m hm => hall m (by omega) hm⟩, hq.rdl _⟩
      · simp [hn, h0, h1, h5]
        refine ⟨l.length - (j + 1), by omega, j + 1, rfl, by omega, wrap_succ (by omega), fun m hm hmj => ?_, hq.rdl _⟩
        by_cases e : m = j
        · subst e; simpa using t
        · simpa using hall m hm (by omega)
    · have hj : ¬ j < l.length := by simpa using t
      simp [hn, h0, h1, h5]
      exact ⟨.inr ⟨rfl, fun m hm => hall m hm (by omega)⟩, hq⟩
  · simp
    exact ⟨0, by simp, by simp, by simp, by simp, .refl _ _⟩

/-- (*Board).at -/
theorem call29 {s : St} {v : Value} {b : Value} {l : List Qo} {i ib : Nat} (hb : s.h.get ib = some (.cells [v, b])) (hib : ib < s.n) (h : Sq s v l i) (hi : i < s.n) (hsm : l.length ≤ 1000) (id : Int) :
    CallA Tryz.prog Tryz.tab 29 [ptr ib 0, .int .i64 id] s fun v s' => Idx (fun q => decide (q.id = id)) l v ∧ Quiet [] s s' := by
  refine callA_of (fn := Tryz.f29) (n := 11) (rs := [.tmp 4]) (by kernel_rfl) rfl rfl rfl (by simp) ?_
  simp [hb, Nat.ne_of_lt hib]
  have q1 : Quiet [] s ((s.nw (.cells [.int .i64 id])).rdl ib) := ((Quiet.refl _ _).nw _).rdl _
  refine callB (call49 (h.move q1 (by simp)) hsm (p := fun q => decide (q.id = id)) ?_) ?_
  · intro s' q hq
    refine call50 ?_ ?_
    · rw [hq.keep s.n (by simp) (by simp)]; simp
    · have := hq.n; simp at this; omega
  · rintro v s2 ⟨hv, hq⟩
    simp
    exact ⟨hv, q1.trans hq⟩

theorem flat_take : ∀ (l : List Qo) (j : Nat), (flat l).take (j * 8) = flat (l.take j)
  | [], j => by simp [flat]
  | q :: l, 0 => by simp [flat]
  | q :: l, j + 1 => by
    rw [show (j + 1) * 8 = q.enc.length + j * 8 from by simp; omega]
    simp only [flat, List.take_succ_cons]
    rw [List.take_length_add_append, flat_take l j]
theorem flat_drop : ∀ (l : List Qo) (j : Nat), (flat l).drop (j * 8) = flat (l.drop j)
  | [], j => by simp [flat]
  | q :: l, 0 => by simp [flat]
  | q :: l, j + 1 => by
    rw [show (j + 1) * 8 = q.enc.length + j * 8 from by simp; omega]
    simp only [flat, List.drop_succ_cons]
    rw [List.drop_length_add_append, flat_drop l j]

theorem Sq.mk' {s : St} {v : Value} {l : List Qo} {n i : Nat} {cs : List Value} (h : Sl s v 8 n cs i) (hc : cs = flat l) (hn : n = l.length) : Sq s v l i := by
  subst hc hn; exact h

/-- lombardref21.without -/
theorem call48 {s : St} {v : Value} {l : List Qo} {i : Nat} (h : Sq s v l i) (hsm : l.length ≤ 1000) (j : Nat) (hj : j < l.length) :
    CallA Tryz.prog Tryz.tab 48 [v, .int .i64 (j : Int)] s fun v s' => ∃ i', Sq s' v (l.take j ++ l.drop (j + 1)) i' ∧ s.n ≤ i' ∧ i' < s'.n ∧ Quiet [] s s' := by
  have hi := (h.row hj).1
  refine callA_of (fn := Tryz.f48) (n := 15) (rs := [.tmp 4]) (by kernel_rfl) rfl rfl rfl (by simp) ?_
  simp
  refine drwB' (prs := [[], [], [], [1, 2], [0, 3, 1, 2], [], [], [6], [5, 7, 6], [4, 0, 3, 1, 2, 8, 5, 7, 6, 4, 0, 3, 1, 2], [9, 4, 0, 3, 1, 2, 8, 5, 7, 6, 4, 0, 3, 1, 2, 9, 4, 0, 3, 1, 2, 8, 5, 7, 6, 4, 0, 3, 1, 2, 0, 1, 2, 3, 1, 2, 4, 0, 3, 1, 2, 5, 6, 7, 6, 8, 5, 7, 6, 9, 4, 0, 3, 1, 2, 8, 5, 7, 6, 4, 0, 3, 1, 2]]) (by kernel_rfl) ?_
  simp
  refine buildSlice0_ok t25 z29 rfl fun v0 s0 h0 nn0 q0 n0 _ => ?_
  simp
  have h1 : Sq _ v l i := Sl.moveK h (q0.k rfl rfl) (by simp)
  obtain ⟨x, e, hx⟩ := Sl.hi h1 j (by omega)
  refine slcB_of t25 (Sl.nostr h1) e ?_
  simp
  dsimp only at n0 h0
  refine append_ok t25 t25.1 (Sl.eqv (s' := ⟨s0.h, s0.n, [], []⟩) h0 rfl rfl) hx rfl (by rw [flat_take]; simp) (by omega) fun v2 s2 i2 h2 q2 c2 nn2 _ _ _ => ?_
  simp [wrap_succ (show j < 1000000 by omega)]
  have h3 : Sq _ v l i := Sl.moveK h1 (q2.k rfl rfl) (by simp; omega)
  obtain ⟨y, e, hy⟩ := Sl.lo h3 (j + 1) (by omega)
  refine slcB_of t25 (Sl.nostr h3) e ?_
  simp
  have m0 := q0.n
  have m2 := q2.n
  dsimp only at m0 m2 c2
  have hi2 : s.n ≤ i2 := by rcases c2 with rfl | c2 <;> omega
  refine append_ok t25 t25.1 (Sl.eqv (s' := ⟨s2.h, s2.n, [], []⟩) h2 rfl rfl) hy (by simp [flat_take]) (by rw [flat_drop]; simp) (by omega) fun v4 s4 i4 h4 q4 c4 nn4 _ _ _ => ?_
  simp
  have m4 := q4.n
  dsimp only at m4 c4
  have hi4 : i4 < s4.n := by
    rcases h4.2 with ⟨x, _⟩ | ⟨x, _⟩
    · exact absurd x (nn4 (.inl (nn2 (.inl nn0))))
    · exact x
  refine ⟨i4, ?_, ?_, hi4, ?_⟩
  · refine Sq.mk' (h4.eqv rfl rfl) ?_ ?_
    · simp only [List.nil_append]
      rw [flat_take, flat_drop, flat_append]
    · simp; omega
  · rcases c4 with rfl | c4 <;> omega
  · have a0 : Quiet [s.n, i2] _ s0 := q0.nil
    have a2 : Quiet [s.n, i2] _ s2 := q2.sub fun k hk => .inl (by simp at hk; simp [hk])
    have a4 : Quiet [s.n, i2] _ s4 := q4.sub fun k hk => .inl (by simp at hk; simp [hk])
    refine Quiet.sub (W := [s.n, i2]) (DQ.fin ?_) fun k hk => .inr (by simp at hk; omega)
    repeat (first | exact DQ.nil _ _ | refine DQ.skip ?_ _ _ _ | refine DQ.step ?_ a0 _ _ _ | refine DQ.step ?_ a2 _ _ _ | refine DQ.step ?_ a4 _ _ _)

/-- slices.Clone -/
theorem call28 {s : St} {v : Value} {l : List Qo} {i : Nat} (h : Sq s v l i) (hsm : l.length ≤ 1000) :
    CallA Tryz.prog Tryz.tab 28 [v] s fun v' s' => ∃ i', Sq s' v' l i' ∧ s.n ≤ i' ∧ Quiet [] s s' := by
  refine callA_of (fn := Tryz.f28) (n := 8) (rs := [.tmp 2]) (by kernel_rfl) rfl rfl rfl (by simp) ?_
  simp
  rcases h.2 with ⟨rfl, hl⟩ | ⟨hi, ⟨sp, cap, rfl, hsp⟩, r, hr⟩
  · refine bindO_of (a := .bool true) (by kernel_rfl) ?_
    simp
    have : l = [] := List.length_eq_zero_iff.1 hl
    subst this
    exact ⟨s.n, Sl.nil _ _ _, by omega, .refl _ _⟩
  · refine bindO_of (a := .bool false) (by kernel_rfl) ?_
    simp
    refine buildSlice0_ok t25 z29 rfl fun v0 s0 h0 _ q0 n0 _ => ?_
    simp
    have h1 : Sq s0 _ l i := h.move q0 (by simp)
    refine append_ok t25 t25.1 h0 (Sl.src h1) rfl (by simp) (by omega) fun v2 s2 i2 h2 q2 c2 _ _ _ _ => ?_
    simp
    have m0 := q0.n
    refine ⟨i2, Sq.mk' h2 (by simp) (by simp), by rcases c2 with rfl | c2 <;> omega, ?_⟩
    exact q0.then q2 (by omega)
end Go.Proofs.Qt
