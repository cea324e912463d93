/- Quotes: what an act does to both sides. -/
import Derived.Test.YtefogennhgacjaaGreatQtK
namespace Go.Proofs.Qt
open Go Go.Ax Go.Proofs
set_option maxRecDepth 100000
set_option linter.unusedSimpArgs false
set_option linter.unusedVariables false

structure Act where
  kind : Int
  q : Qo
  a : Int
  b : Int
def Act.enc (x : Act) : List Value := .int .i64 x.kind :: (x.q.enc ++ [.int .i64 x.a, .int .i64 x.b])
def Act.val (x : Act) : Value := .agg (List.toArray x.enc)
@[simp] theorem cellsOf_act (x : Act) : cellsOf x.val = x.enc := rfl
@[simp] theorem plains_act (x : Act) : plains x.enc = true := rfl
@[simp] theorem sla_0 (x : Act) : slab x.enc 0 1 = some [.int .i64 x.kind] := rfl
@[simp] theorem sla_1 (x : Act) : slab x.enc 1 8 = some x.q.enc := rfl
@[simp] theorem sla_9 (x : Act) : slab x.enc 9 1 = some [.int .i64 x.a] := rfl
@[simp] theorem sla_10 (x : Act) : slab x.enc 10 1 = some [.int .i64 x.b] := rfl
@[simp] theorem fa31_0 (i o : Nat) : aFieldAddr Tryz.prog 31 (ptr i o) 0 = some (ptr i o) := by kernel_rfl
@[simp] theorem fa31_1 (i o : Nat) : aFieldAddr Tryz.prog 31 (ptr i o) 1 = some (ptr i (o + 1)) := by kernel_rfl
@[simp] theorem fa31_2 (i o : Nat) : aFieldAddr Tryz.prog 31 (ptr i o) 2 = some (ptr i (o + 9)) := by kernel_rfl
@[simp] theorem fa31_3 (i o : Nat) : aFieldAddr Tryz.prog 31 (ptr i o) 3 = some (ptr i (o + 10)) := by kernel_rfl

/-- What both sides know. -/
structure Inv (s : St) (ib il : Nat) (vb rl : Value) (l : List Qo) (jb jr : Nat) : Prop where
  b : s.h.get ib = some (.cells [vb, .bool true])
  r : s.h.get il = some (.cells [rl])
  hb : Bq s vb l jb
  hr : Sq s rl l jr
  jr_lt : jr < s.n
  ib_lt : ib < s.n
  il_lt : il < s.n
  d1 : jb ≠ ib
  d2 : jb ≠ il
  d3 : ib ≠ il
  d4 : rl ≠ nilS → jr ≠ jb ∧ jr ≠ ib ∧ jr ≠ il
  good : ∀ q ∈ l, 1 ≤ q.member ∧ 0 ≤ q.start ∧ q.amount ≤ 1125899906842624
  len : l.length ≤ 64

def Step (s : St) (ib il : Nat) (rl : Value) (jb jr : Nat) (v : Value) (s' : St) : Prop :=
  v = .bool true ∧ ∃ vb' rl' l' jb' jr', Inv s' ib il vb' rl' l' jb' jr' ∧ (jb' = jb ∨ s.n ≤ jb') ∧ (jr' = jr ∧ rl' = rl ∨ s.n ≤ jr') ∧ Quiet [jb, ib, il] s s'

/-- How a call's end is told: the reference's list is stored. -/
theorem step_end {s s1 s2 : St} {ib il jb jr : Nat} {vb rl vb' rl' : Value} {l l' : List Qo} {jb' jr' : Nat} (I : Inv s ib il vb rl l jb jr) (q1 : Quiet [jb, ib] s s1)
    (hb1 : s1.h.get ib = some (.cells [vb', .bool true])) (hB : Bq s1 vb' l' jb') (hR : Sq s1 rl' l' jr') (hjr : jr' < s1.n) (c1 : jb' = jb ∨ s.n ≤ jb') (c2 : jr' = jr ∧ rl' = rl ∨ s.n ≤ jr')
    (hd : rl' ≠ nilS → jr' ≠ jb') (hg : ∀ q ∈ l', 1 ≤ q.member ∧ 0 ≤ q.start ∧ q.amount ≤ 1125899906842624) (hl : l'.length ≤ 64)
    (e1 : Quiet [il] s1 s2) (e2 : s2.h.get il = some (.cells [rl'])) (e3 : s2.n = s1.n) : Step s ib il rl jb jr (.bool true) s2 := by
  obtain ⟨b, r, hb, hr, jr_lt, ib_lt, il_lt, d1, d2, d3, d4, good, len⟩ := I
  have m1 := q1.n
  have m2 := e1.n
  have n1 : jb' ≠ ib := by rcases c1 with rfl | c1; exact d1; omega
  have n2 : jb' ≠ il := by rcases c1 with rfl | c1; exact d2; omega
  have n3 : rl' ≠ nilS → jr' ≠ ib ∧ jr' ≠ il := by
    intro h
    rcases c2 with ⟨rfl, rfl⟩ | c2
    · exact (d4 h).2
    · omega
  refine ⟨rfl, vb', rl', l', jb', jr', ⟨?_, e2, ?_, ?_, by omega, by omega, by omega, n1, n2, d3, fun h => ⟨hd h, n3 h⟩, hg, hl⟩, c1, c2, ?_⟩
  · rw [e1.keep ib (by omega) (by simp; omega)]; exact hb1
  · exact hB.move e1 (by simp; omega)
  · exact Sl.move' hR e1 fun h => by simpa using (n3 h).2
  · exact (q1.sub fun k hk => .inl (by simp at hk; rcases hk with h | h <;> simp [h])).trans (e1.sub fun k hk => .inl (by simp at hk; simp [hk]))

theorem good_addL {l : List Qo} {q : Qo} (h : ∀ q ∈ l, 1 ≤ q.member ∧ 0 ≤ q.start ∧ q.amount ≤ 1125899906842624) : ∀ x ∈ addL l q, 1 ≤ x.member ∧ 0 ≤ x.start ∧ x.amount ≤ 1125899906842624 := by
  unfold addL
  split
  · rename_i e
    intro x hx
    rcases List.mem_append.1 hx with hx | hx
    · exact h x hx
    · simp at hx
      subst hx
      unfold chk at e
      split at e
      · rename_i e1
        unfold err at e1
        split at e1
        · rename_i hm
          have c1 : qc1 x := by
            by_cases c : qc1 x
            · exact c
            · rw [qerr_1 c] at e1; omega
          have c2 : qc2 x := by
            by_cases c : qc2 x
            · exact c
            · rw [qerr_10 c1 c] at e1; omega
          simp [inR] at hm
          unfold qc1 at c1
          unfold qc2 at c2
          omega
        · omega
      · contradiction
  · exact h
theorem len_addL {l : List Qo} {q : Qo} (h : l.length ≤ 64) : (addL l q).length ≤ 64 := by
  unfold addL
  split
  · rename_i e
    unfold chk at e
    split at e
    · split at e
      · omega
      · split at e
        · simp; omega
        · omega
    · contradiction
  · exact h
theorem mem_erased {l : List Qo} {j : Nat} {q : Qo} (h : q ∈ erased l j) : q ∈ l := by
  unfold erased at h
  rcases List.mem_append.1 h with h | h
  · exact List.mem_of_mem_take h
  · exact List.mem_of_mem_drop h
theorem len_erased (l : List Qo) (j : Nat) : (erased l j).length ≤ l.length := by
  unfold erased; simp; omega

theorem mem_canL {l : List Qo} {m id : Int} {q : Qo} (h : q ∈ canL l m id) : q ∈ l := by
  unfold canL at h
  split at h
  · split at h
    · exact mem_erased h
    · exact h
  · exact h
theorem len_canL (l : List Qo) (m id : Int) : (canL l m id).length ≤ l.length := by
  unfold canL
  split
  · split
    · exact len_erased _ _
    · exact Nat.le_refl _
  · exact Nat.le_refl _
theorem good_lesL {l : List Qo} {id amt : Int} (h : ∀ q ∈ l, 1 ≤ q.member ∧ 0 ≤ q.start ∧ q.amount ≤ 1125899906842624) : ∀ x ∈ lesL l id amt, 1 ≤ x.member ∧ 0 ≤ x.start ∧ x.amount ≤ 1125899906842624 := by
  intro x hx
  unfold lesL at hx
  split at hx
  · rename_i hj
    split at hx
    · exact h x hx
    · rename_i hc
      split at hx
      · exact h x (mem_erased hx)
      · rcases List.mem_or_eq_of_mem_set hx with hx | hx
        · exact h x hx
        · have := h _ (List.getElem_mem hj)
          subst hx
          simp only [Qo.withA]
          omega
  · exact h x hx
theorem len_lesL (l : List Qo) (id amt : Int) : (lesL l id amt).length ≤ l.length := by
  unfold lesL
  split
  · split
    · exact Nat.le_refl _
    · split
      · exact len_erased _ _
      · simp
  · exact Nat.le_refl _

theorem call6 {s : St} {ib il jb jr : Nat} {vb rl : Value} {l : List Qo} (I : Inv s ib il vb rl l jb jr) (x : Act) : CallA Tryz.prog Tryz.tab 6 [ptr ib 0, ptr il 0, x.val] s (Step s ib il rl jb jr) := by
  have I' := I
  obtain ⟨b, r, hb, hr, jr_lt, ib_lt, il_lt, d1, d2, d3, d4, good, len⟩ := I'
  refine callA_q fun Q hQ => ?_
  refine callA_of (fn := Tryz.f6) (n := 130) (rs := [.tmp 6]) (by kernel_rfl) rfl rfl rfl (by simp) ?_
  have ne1 : ib ≠ s.n := Nat.ne_of_lt ib_lt
  have ne2 : il ≠ s.n := Nat.ne_of_lt il_lt
  simp [r, ne2]
  have qa : Quiet [] s ((s.nw (.cells x.enc)).rdl il) := ((Quiet.refl _ _).nw _).rdl _
  have p0 : Quiet [] s (s.nw (.cells x.enc)) := (Quiet.refl _ _).nw _
  refine testB (fun k0 => ?_) (fun k0 => ?_)
  · simp
    refine drwB (by kernel_rfl) ?_
    simp [r, ne2]
    refine callB (call21 (i := jr) (Sq.move (W := []) hr (by repeat (first | assumption | exact Quiet.refl _ _ | apply Quiet.rdl)) (by simp)) (by omega) x.q) ?_
    rintro v1 s1 ⟨rfl, q1⟩
    have p1 : Quiet [] (s.nw (.cells x.enc)) s1 := Quiet.trans (by repeat (first | assumption | exact Quiet.refl _ _ | apply Quiet.rdl)) q1
    have p1s : Quiet [] s s1 := p0.trans p1
    have hbox1 : s1.h.get s.n = some (.cells x.enc) := by rw [p1.keep s.n (by simp) (by simp)]; simp
    simp [hbox1]
    refine callB (call22 (vb := vb) (i := jb) (l := l) (by simpa using (p1s.keep ib ib_lt (by simp)).trans b) (by simpa using Nat.lt_of_lt_of_le ib_lt p1s.n) (Bq.move (W := []) hb (by repeat (first | assumption | exact Quiet.refl _ _ | apply Quiet.rdl)) (by simp)) (by omega) x.q) ?_
    rintro v2 s2 ⟨rfl, q2⟩
    have p2 : Quiet [] (s.nw (.cells x.enc)) s2 := Quiet.trans (by repeat (first | assumption | exact Quiet.refl _ _ | apply Quiet.rdl)) q2
    have p2s : Quiet [] s s2 := p0.trans p2
    have hbox2 : s2.h.get s.n = some (.cells x.enc) := by rw [p2.keep s.n (by simp) (by simp)]; simp
    have hr2 : s2.h.get il = some (.cells [rl]) := (p2s.keep il il_lt (by simp)).trans r
    simp
    refine drwB (by kernel_rfl) ?_
    simp [hbox2, hr2]
    have m2 := p2s.n
    refine callB (call23 (i := jr) (Sq.move (W := []) hr (by repeat (first | assumption | exact Quiet.refl _ _ | apply Quiet.rdl)) (by simp)) (by simp; omega) (by omega) x.q) ?_
    rintro v3 s3 ⟨rl', jr', rfl, hR, hjr, c2, q3⟩
    have p3 : Quiet [] (s.nw (.cells x.enc)) s3 := Quiet.trans (by repeat (first | assumption | exact Quiet.refl _ _ | apply Quiet.rdl)) q3
    have p3s : Quiet [] s s3 := p0.trans p3
    have hbox3 : s3.h.get s.n = some (.cells x.enc) := by rw [p3.keep s.n (by simp) (by simp)]; simp
    simp [hbox3]
    have m3 := p3s.n
    have hB3 := hb.move p3s (by simp)
    refine callB (call10 (vb := vb) (i := jb) (l := l) (by simpa using (p3s.keep ib ib_lt (by simp)).trans b) (by simp; omega) (Bq.move (W := []) hB3 (by repeat (first | assumption | exact Quiet.refl _ _ | apply Quiet.rdl)) (by simp)) d1 (by omega) x.q) ?_
    rintro v4 s4 ⟨rfl, vb', jb', hb4, hB4, c1, -, q4⟩
    have q34 : Quiet [jb, ib] s3 s4 := Quiet.trans (by repeat (first | assumption | exact Quiet.refl _ _ | apply Quiet.rdl)) q4
    have p4s : Quiet [jb, ib] s s4 := p3s.nil.trans q34
    have m4 := q34.n
    have hr4 : s4.h.get il = some (.cells [rl]) := (p4s.keep il il_lt (by simp; omega)).trans r
    simp at c1 c2
    have hRf : rl' ≠ nilS → jr' ≠ jb ∧ jr' ≠ ib := by
      intro h
      rcases c2 with ⟨rfl, rfl⟩ | c2
      · exact ⟨(d4 h).1, (d4 h).2.1⟩
      · have := hb.1; omega
    have hR4 : Sq s4 rl' (addL l x.q) jr' := Sl.move' hR q34 fun h => by simpa using hRf h
    simp [hr4, st25 _ _ _ (Sl.plain hR4), Sl.plain hR4]
    refine hQ _ _ (step_end (s1 := s4) I p4s hb4 hB4 hR4 (by omega) (by rcases c1 with rfl | c1; exact .inl rfl; omega) (by rcases c2 with c2 | c2; exact .inl c2; omega) ?_ (good_addL good) (len_addL len) ?_ ?_ ?_)
    · intro h
      rcases c1 with rfl | c1
      · exact (hRf h).1
      · have : jr' < s3.n := hjr
        omega
    · exact ((Quiet.refl _ _).rdl _).wrl _ _ (.inl (by simp))
    · simp
    · simp
  · simp
    refine testB (fun k1 => ?_) (fun k1 => ?_)
    · simp
      refine drwB (by kernel_rfl) ?_
      simp [r, ne2]
      refine callB (call24 (i := jr) (Sq.move (W := []) hr (by repeat (first | assumption | exact Quiet.refl _ _ | apply Quiet.rdl)) (by simp)) (by simp; omega) (by omega) x.a x.b) ?_
      rintro v1 s1 ⟨rl', jr', rfl, hR, hjr, c2, q1⟩
      have p1 : Quiet [] (s.nw (.cells x.enc)) s1 := Quiet.trans (by repeat (first | assumption | exact Quiet.refl _ _ | apply Quiet.rdl)) q1
      have p1s : Quiet [] s s1 := p0.trans p1
      have hbox1 : s1.h.get s.n = some (.cells x.enc) := by rw [p1.keep s.n (by simp) (by simp)]; simp
      simp [hbox1]
      have m1 := p1s.n
      have m0 := p1.n
      simp at m0
      have hB1 := hb.move p1s (by simp)
      refine callB (call11 (vb := vb) (i := jb) (l := l) (by simpa using (p1s.keep ib ib_lt (by simp)).trans b) (by simp; omega) (Bq.move (W := []) hB1 (by repeat (first | assumption | exact Quiet.refl _ _ | apply Quiet.rdl)) (by simp)) d1 (by omega) x.a x.b) ?_
      rintro v4 s4 ⟨rfl, vb', hb4, hB4, q4⟩
      have q34 : Quiet [jb, ib] s1 s4 := Quiet.trans (by repeat (first | assumption | exact Quiet.refl _ _ | apply Quiet.rdl)) q4
      have p4s : Quiet [jb, ib] s s4 := p1s.nil.trans q34
      have m4 := q34.n
      have hr4 : s4.h.get il = some (.cells [rl]) := (p4s.keep il il_lt (by simp; omega)).trans r
      simp at c2
      have hRf : rl' ≠ nilS → jr' ≠ jb ∧ jr' ≠ ib := by
        intro h
        rcases c2 with ⟨rfl, rfl⟩ | c2
        · exact ⟨(d4 h).1, (d4 h).2.1⟩
        · have := hb.1; omega
      have hR4 : Sq s4 rl' (canL l x.a x.b) jr' := Sl.move' hR q34 fun h => by simpa using hRf h
      simp [hr4, st25 _ _ _ (Sl.plain hR4), Sl.plain hR4]
      refine hQ _ _ (step_end (s1 := s4) I p4s hb4 hB4 hR4 (by omega) (.inl rfl) (by rcases c2 with c2 | c2; exact .inl c2; omega) (fun h => (hRf h).1) (fun q hq => good q (mem_canL hq)) (Nat.le_trans (len_canL _ _ _) len) ?_ ?_ ?_)
      · exact ((Quiet.refl _ _).rdl _).wrl _ _ (.inl (by simp))
      · simp
      · simp
    · simp
      refine testB (fun k2 => ?_) (fun k2 => ?_)
      · simp
        refine drwB (by kernel_rfl) ?_
        simp [r, ne2]
        refine callB (call25 (i := jr) (Sq.move (W := []) hr (by repeat (first | assumption | exact Quiet.refl _ _ | apply Quiet.rdl)) (by simp)) (by simp; omega) (by omega) (fun q hq => (good q hq).2.2) x.a x.b) ?_
        rintro v1 s1 ⟨rl', jr', rfl, hR, hjr, c2, q1⟩
        have p1 : Quiet [] (s.nw (.cells x.enc)) s1 := Quiet.trans (by repeat (first | assumption | exact Quiet.refl _ _ | apply Quiet.rdl)) q1
        have p1s : Quiet [] s s1 := p0.trans p1
        have hbox1 : s1.h.get s.n = some (.cells x.enc) := by rw [p1.keep s.n (by simp) (by simp)]; simp
        simp [hbox1]
        have m1 := p1s.n
        have m0 := p1.n
        simp at m0
        have hB1 := hb.move p1s (by simp)
        refine callB (call12 (vb := vb) (i := jb) (l := l) (by simpa using (p1s.keep ib ib_lt (by simp)).trans b) (by simp; omega) (Bq.move (W := []) hB1 (by repeat (first | assumption | exact Quiet.refl _ _ | apply Quiet.rdl)) (by simp)) d1 (by omega) (fun q hq => (good q hq).2.2) x.a x.b) ?_
        rintro v4 s4 ⟨rfl, vb', hb4, hB4, q4⟩
        have q34 : Quiet [jb, ib] s1 s4 := Quiet.trans (by repeat (first | assumption | exact Quiet.refl _ _ | apply Quiet.rdl)) q4
        have p4s : Quiet [jb, ib] s s4 := p1s.nil.trans q34
        have m4 := q34.n
        have hr4 : s4.h.get il = some (.cells [rl]) := (p4s.keep il il_lt (by simp; omega)).trans r
        simp at c2
        have hRf : rl' ≠ nilS → jr' ≠ jb ∧ jr' ≠ ib := by
          intro h
          rcases c2 with ⟨rfl, rfl⟩ | c2
          · exact ⟨(d4 h).1, (d4 h).2.1⟩
          · have := hb.1; omega
        have hR4 : Sq s4 rl' (lesL l x.a x.b) jr' := Sl.move' hR q34 fun h => by simpa using hRf h
        simp [hr4, st25 _ _ _ (Sl.plain hR4), Sl.plain hR4]
        refine hQ _ _ (step_end (s1 := s4) I p4s hb4 hB4 hR4 (by omega) (.inl rfl) (by rcases c2 with c2 | c2; exact .inl c2; omega) (fun h => (hRf h).1) (good_lesL good) (Nat.le_trans (len_lesL _ _ _) len) ?_ ?_ ?_)
        · exact ((Quiet.refl _ _).rdl _).wrl _ _ (.inl (by simp))
        · simp
        · simp
      · simp
        refine testB (fun k3 => ?_) (fun k3 => ?_)
        · simp [r, ne2]
          refine testB (fun k4 => ?_) (fun k4 => ?_)
          · simp
            simp at k4
            refine drwB (by kernel_rfl) ?_
            simp [r, ne2]
            refine callB (call26 (i := jr) (Sq.move (W := []) hr (by repeat (first | assumption | exact Quiet.refl _ _ | apply Quiet.rdl)) (by simp)) (by omega) x.a 0) ?_
            rintro v1 s1 ⟨rl', vi, jr', ii, rfl, hR, hI, hio, hii, q1⟩
            simp at hio hii
            have p1 : Quiet [] (s.nw (.cells x.enc)) s1 := Quiet.trans (by repeat (first | assumption | exact Quiet.refl _ _ | apply Quiet.rdl)) q1
            have p1s : Quiet [] s s1 := p0.trans p1
            have hbox1 : s1.h.get s.n = some (.cells x.enc) := by rw [p1.keep s.n (by simp) (by simp)]; simp
            simp [hbox1]
            have m1 := p1s.n
            have m0 := p1.n
            simp at m0
            have hB1 := hb.move p1s (by simp)
            refine callB (call14 (vb := vb) (i := jb) (l := l) (by simpa using (p1s.keep ib ib_lt (by simp)).trans b) (by simp; omega) (Bq.move (W := []) hB1 (by repeat (first | assumption | exact Quiet.refl _ _ | apply Quiet.rdl)) (by simp)) d1 (by omega) x.a) ?_
            rintro v4 s4 ⟨kk, vb', hids, hkk, hb4, hB4, q4⟩
            have q34 : Quiet [jb, ib] s1 s4 := Quiet.trans (by repeat (first | assumption | exact Quiet.refl _ _ | apply Quiet.rdl)) q4
            have p4s : Quiet [jb, ib] s s4 := p1s.nil.trans q34
            have m4 := q34.n
            have hbl := hb.1
            have hI4 : Si s4 vi ((l.filter (dropP x.a 0)).map (·.id)) ii := Sl.move hI q34 (by simp; omega)
            have hR4 : Sq s4 rl' (l.filter fun q => !dropP x.a 0 q) jr' := Sl.move hR q34 (by simp; omega)
            have hfl := List.length_filter_le (dropP x.a 0) l
            have e1 : (l.filter fun q => decide (q.member = x.a)) = l.filter (dropP x.a 0) := by
              apply List.filter_congr
              intro q hq
              have := good q hq
              have h0 : decide (q.start < 0) = false := by simp; omega
              simp [dropP, k4, h0]
            have e2 : (l.filter fun q => !decide (q.member = x.a)) = l.filter fun q => !dropP x.a 0 q := by
              apply List.filter_congr
              intro q hq
              have := good q hq
              have h0 : decide (q.start < 0) = false := by simp; omega
              simp [dropP, k4, h0]
            rw [e1] at hids
            rw [e2] at hB4
            simp
            refine callB (call27 hids hI4 (by simp; omega)) ?_
            rintro v5 s5 ⟨rfl, q5⟩
            have hr5 : s5.h.get il = some (.cells [rl]) := ((p4s.trans q5.nil).keep il il_lt (by simp; omega)).trans r
            have hR5 : Sq s5 rl' (l.filter fun q => !dropP x.a 0 q) jr' := Sl.move hR4 q5 (by simp)
            simp [hr5, st25 _ _ _ (Sl.plain hR5), Sl.plain hR5]
            have hfl2 := List.length_filter_le (fun q => !dropP x.a 0 q) l
            have m5 := q5.n
            by_cases hnil : rl' = nilS
            · refine hQ _ _ (step_end (s1 := s5) (jr' := s.n) I (p4s.trans q5.nil) ((q5.keep ib (by omega) (by simp)).trans hb4) (hB4.move q5 (by simp)) ⟨hR5.1, ?_⟩ (by omega) (.inl rfl) (.inr (Nat.le_refl _)) (fun h => absurd hnil h) (fun q hq => good q ((List.mem_filter.1 hq).1)) (by omega) ?_ ?_ ?_)
              · rcases hR5.2 with y | ⟨_, ⟨_, _, y, _⟩, _⟩
                · exact .inl y
                · rw [hnil] at y; cases y
              · exact ((Quiet.refl _ _).rdl _).wrl _ _ (.inl (by simp))
              · simp
              · simp
            · refine hQ _ _ (step_end (s1 := s5) I (p4s.trans q5.nil) ((q5.keep ib (by omega) (by simp)).trans hb4) (hB4.move q5 (by simp)) hR5 (Sl.lt hR5 hnil) (.inl rfl) (.inr (by omega)) (fun _ => by omega) (fun q hq => good q ((List.mem_filter.1 hq).1)) (by omega) ?_ ?_ ?_)
              · exact ((Quiet.refl _ _).rdl _).wrl _ _ (.inl (by simp))
              · simp
              · simp
          · simp [ne1]
            simp at k4
            have hB1 : Bq _ vb l jb := Bq.move (W := []) hb p0 (by simp)
            refine callB (call14 (vb := vb) (i := jb) (l := l) (by simpa [ne1] using b) (by simp; omega) (Bq.move (W := []) hB1 (by repeat (first | assumption | exact Quiet.refl _ _ | apply Quiet.rdl)) (by simp)) d1 (by omega) x.a) ?_
            rintro v4 s4 ⟨kk, vb', hids, hkk, hb4, hB4, q4⟩
            have q34 : Quiet [jb, ib] (s.nw (.cells x.enc)) s4 := Quiet.trans (by repeat (first | assumption | exact Quiet.refl _ _ | apply Quiet.rdl)) q4
            have p4s : Quiet [jb, ib] s s4 := p0.nil.trans q34
            have m4 := p4s.n
            have e1 : (l.filter fun q => decide (q.member = x.a)) = [] := by
              rw [List.filter_eq_nil_iff]
              intro q hq
              have := good q hq
              simp; omega
            have e2 : (l.filter fun q => !decide (q.member = x.a)) = l := by
              rw [List.filter_eq_self]
              intro q hq
              have := good q hq
              simp; omega
            rw [e1] at hids
            rw [e2] at hB4
            simp
            refine callB (call27 (l := []) hids (Sl.nil _ _ 0) (by simp)) ?_
            rintro v5 s5 ⟨rfl, q5⟩
            have p5s : Quiet [jb, ib] s s5 := p4s.trans q5.nil
            have m5 := p5s.n
            have hr5 : s5.h.get il = some (.cells [rl]) := (p5s.keep il il_lt (by simp; omega)).trans r
            have hR5 : Sq s5 rl l jr := Sl.move' hr p5s fun h => by have := d4 h; simp; omega
            simp [hr5, st25 _ _ _ (Sl.plain hR5), Sl.plain hR5]
            refine hQ _ _ (step_end (s1 := s5) I p5s ((q5.keep ib (by omega) (by simp)).trans hb4) (hB4.move q5 (by simp)) hR5 (by omega) (.inl rfl) (.inl ⟨rfl, rfl⟩) (fun h => (d4 h).1) good len ?_ ?_ ?_)
            · exact ((Quiet.refl _ _).rdl _).wrl _ _ (.inl (by simp))
            · simp
            · simp
        · simp
          refine drwB (by kernel_rfl) ?_
          simp [r, ne2]
          refine callB (call26 (i := jr) (Sq.move (W := []) hr (by repeat (first | assumption | exact Quiet.refl _ _ | apply Quiet.rdl)) (by simp)) (by omega) 0 x.a) ?_
          rintro v1 s1 ⟨rl', vi, jr', ii, rfl, hR, hI, hio, hii, q1⟩
          simp at hio hii
          have p1 : Quiet [] (s.nw (.cells x.enc)) s1 := Quiet.trans (by repeat (first | assumption | exact Quiet.refl _ _ | apply Quiet.rdl)) q1
          have p1s : Quiet [] s s1 := p0.trans p1
          have hbox1 : s1.h.get s.n = some (.cells x.enc) := by rw [p1.keep s.n (by simp) (by simp)]; simp
          simp [hbox1]
          have m1 := p1s.n
          have m0 := p1.n
          simp at m0
          have hB1 := hb.move p1s (by simp)
          refine callB (call15 (vb := vb) (i := jb) (l := l) (by simpa using (p1s.keep ib ib_lt (by simp)).trans b) (by simp; omega) (Bq.move (W := []) hB1 (by repeat (first | assumption | exact Quiet.refl _ _ | apply Quiet.rdl)) (by simp)) d1 (by omega) x.a) ?_
          rintro v4 s4 ⟨kk, vb', hids, hkk, hb4, hB4, q4⟩
          have q34 : Quiet [jb, ib] s1 s4 := Quiet.trans (by repeat (first | assumption | exact Quiet.refl _ _ | apply Quiet.rdl)) q4
          have p4s : Quiet [jb, ib] s s4 := p1s.nil.trans q34
          have m4 := q34.n
          have hbl := hb.1
          have hI4 : Si s4 vi ((l.filter (dropP 0 x.a)).map (·.id)) ii := Sl.move hI q34 (by simp; omega)
          have hR4 : Sq s4 rl' (l.filter fun q => !dropP 0 x.a q) jr' := Sl.move hR q34 (by simp; omega)
          have hfl := List.length_filter_le (dropP 0 x.a) l
          have e1 : (l.filter fun q => decide (q.start < x.a)) = l.filter (dropP 0 x.a) := by
            apply List.filter_congr
            intro q hq
            have := good q hq
            simp [dropP]
          have e2 : (l.filter fun q => !decide (q.start < x.a)) = l.filter fun q => !dropP 0 x.a q := by
            apply List.filter_congr
            intro q hq
            have := good q hq
            simp [dropP]
          rw [e1] at hids
          rw [e2] at hB4
          simp
          refine callB (call27 hids hI4 (by simp; omega)) ?_
          rintro v5 s5 ⟨rfl, q5⟩
          have hr5 : s5.h.get il = some (.cells [rl]) := ((p4s.trans q5.nil).keep il il_lt (by simp; omega)).trans r
          have hR5 : Sq s5 rl' (l.filter fun q => !dropP 0 x.a q) jr' := Sl.move hR4 q5 (by simp)
          simp [hr5, st25 _ _ _ (Sl.plain hR5), Sl.plain hR5]
          have hfl2 := List.length_filter_le (fun q => !dropP 0 x.a q) l
          have m5 := q5.n
          by_cases hnil : rl' = nilS
          · refine hQ _ _ (step_end (s1 := s5) (jr' := s.n) I (p4s.trans q5.nil) ((q5.keep ib (by omega) (by simp)).trans hb4) (hB4.move q5 (by simp)) ⟨hR5.1, ?_⟩ (by omega) (.inl rfl) (.inr (Nat.le_refl _)) (fun h => absurd hnil h) (fun q hq => good q ((List.mem_filter.1 hq).1)) (by omega) ?_ ?_ ?_)
            · rcases hR5.2 with y | ⟨_, ⟨_, _, y, _⟩, _⟩
              · exact .inl y
              · rw [hnil] at y; cases y
            · exact ((Quiet.refl _ _).rdl _).wrl _ _ (.inl (by simp))
            · simp
            · simp
          · refine hQ _ _ (step_end (s1 := s5) I (p4s.trans q5.nil) ((q5.keep ib (by omega) (by simp)).trans hb4) (hB4.move q5 (by simp)) hR5 (Sl.lt hR5 hnil) (.inl rfl) (.inr (by omega)) (fun _ => by omega) (fun q hq => good q ((List.mem_filter.1 hq).1)) (by omega) ?_ ?_ ?_)
            · exact ((Quiet.refl _ _).rdl _).wrl _ _ (.inl (by simp))
            · simp
            · simp
end Go.Proofs.Qt
