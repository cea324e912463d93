/- Quotes: Less, of both sides. -/
import Derived.Test.YtefogennhgacjaaGreatQtJ
namespace Go.Proofs.Qt
open Go Go.Ax Go.Proofs
set_option maxRecDepth 100000
set_option linter.unusedSimpArgs false
set_option linter.unusedVariables false

def Qo.withA (q : Qo) (x : Int) : Qo := ⟨q.id, q.member, q.side, q.basket, x, q.rate, q.start, q.stop⟩

@[simp] theorem withA_amount (q : Qo) (x : Int) : (q.withA x).amount = x := rfl
theorem erased_set (l : List Qo) (j : Nat) (q : Qo) : erased (l.set j q) j = erased l j := by
  unfold erased
  rw [List.take_set_of_le (Nat.le_refl _), List.drop_set_of_lt (by omega)]
theorem erased_length {l : List Qo} {j : Nat} (h : j < l.length) : (erased l j).length = l.length - 1 := by
  unfold erased; simp; omega

def lesE (l : List Qo) (id amt : Int) : Int := if h : fi l id < l.length then if amt < 1 ∨ l[fi l id].amount < amt then 1 else 0 else 6
def lesL (l : List Qo) (id amt : Int) : List Qo := if h : fi l id < l.length then
    if amt < 1 ∨ l[fi l id].amount < amt then l else if amt = l[fi l id].amount then erased l (fi l id) else l.set (fi l id) (l[fi l id].withA (l[fi l id].amount - amt))
  else l

theorem set_split (l : List Qo) (j : Nat) (h : j < l.length) (q : Qo) : l.set j q = l.take j ++ (q :: l.drop (j + 1)) := List.set_eq_take_append_cons_drop.trans (by rw [if_pos h])

theorem lay_amount {l : List Qo} {j : Nat} (h : j < l.length) (x : Int) (r : List Value) : lay [.int .i64 x] (j * 8 + 4) (flat l ++ r) = some (flat (l.set j (l[j].withA x)) ++ r) := by
  have e1 : flat l ++ r = (flat (l.take j) ++ [.int .i64 l[j].id, .int .i64 l[j].member, .int .i64 l[j].side, .int .i64 l[j].basket]) ++ ([.int .i64 l[j].amount] ++ ([.int .i64 l[j].rate, .int .i64 l[j].start, .int .i64 l[j].stop] ++ (flat (l.drop (j + 1)) ++ r))) := by
    rw [flat_at l j h]
    simp [Qo.enc]
  rw [e1, lay_mid (x := [.int .i64 l[j].amount]) (vs := [.int .i64 x]) (by rw [List.length_append, flat_length]; simp; omega) rfl, set_split l j h, flat_append]
  simp [flat, Qo.enc, Qo.withA]

/-- (*Board).Less -/
theorem call12 {s : St} {ib i : Nat} {vb : Value} {l : List Qo} (hb : s.h.get ib = some (.cells [vb, .bool true])) (hib : ib < s.n) (h : Bq s vb l i) (hne : i ≠ ib) (hsm : l.length ≤ 900) (hA : ∀ q ∈ l, q.amount ≤ 1125899906842624) (id amt : Int) :
    CallA Tryz.prog Tryz.tab 12 [ptr ib 0, .int .i64 id, .int .i64 amt] s fun v s' => v = .int .i64 (lesE l id amt) ∧ ∃ vb', s'.h.get ib = some (.cells [vb', .bool true]) ∧ Bq s' vb' (lesL l id amt) i ∧ Quiet [i, ib] s s' := by
  have hi0 := h.1
  refine callA_q fun Q hQ => ?_
  refine callA_of (fn := Tryz.f12) (n := 70) (rs := [.tmp 6]) (by kernel_rfl) rfl rfl rfl (by simp) ?_
  simp [hb]
  have q0 : Quiet [] s (s.rdl ib) := (Quiet.refl _ _).rdl _
  refine callB (call29 (s := s.rdl ib) (v := vb) (b := .bool true) (l := l) (i := i) (by simpa using hb) (by simpa using hib) (h.sq.move q0 (by simp)) (by simpa using hi0) (by omega) id) ?_
  rintro v s1 ⟨hv, q1'⟩
  have q1 : Quiet [] s s1 := q0.trans q1'
  have hb1 : s1.h.get ib = some (.cells [vb, .bool true]) := by rw [q1.keep ib hib (by simp)]; exact hb
  have h1 := h.move q1 (by simp)
  rcases hv.fi with ⟨rfl, hj⟩ | ⟨rfl, hj⟩
  · simp
    rw [show decide ((fi l id : Int) < 0) = false from by simp]
    simp
    refine testB (fun e => ?_) (fun e => ?_)
    · simp
      simp at e
      refine hQ _ _ ⟨?_, vb, hb1, ?_, q1.nil⟩
      · simp [lesE, hj]; omega
      · unfold lesL
        rw [dif_pos hj, if_pos (.inl (by omega))]
        exact h1
    · simp at e
      obtain ⟨hi1, r, hr⟩ := h1.sq.row hj
      simp [hb1, h1.sq.ia _ hj, hr, hj]
      refine testB (fun e2 => ?_) (fun e2 => ?_)
      · simp
        simp at e2
        refine hQ _ _ ⟨?_, vb, by simpa using hb1, ?_, ((q1.rdl _).rdl _).nil⟩
        · simp [lesE, hj]; omega
        · unfold lesL
          rw [dif_pos hj, if_pos (.inr (by omega))]
          exact h1.move (((Quiet.refl [] _).rdl ib).rdl i) (by simp)
      · simp at e2
        have hamt := hA _ (List.getElem_mem hj)
        have hw : IntKind.i64.wrap (l[fi l id].amount - amt) = l[fi l id].amount - amt := wrap_small (by omega) (by omega)
        have hia := h1.sq.ia _ hj
        obtain ⟨hi1', ⟨rfl, rfl⟩ | ⟨rfl, r', hr'⟩⟩ := h1
        · simp at hj
        have hset : (l.set (fi l id) (l[fi l id].withA (l[fi l id].amount - amt))).length = l.length := by simp
        have hne' : ib ≠ i := fun h => hne h.symm
        simp [hb1, hia, hr, hj, hw, lay_amount hj, hne', hne]
        have q5 : Quiet [i] s (((((((s1.rdl ib).rdl i).rdl ib).rdl i).rdl i).wrl i (.cells (flat (l.set (fi l id) (l[fi l id].withA (l[fi l id].amount - amt))) ++ r)))) := ((((((q1.nil.rdl _).rdl _).rdl _).rdl _).rdl _).wrl _ _ (.inl (by simp)))
        refine testB (fun e3 => ?_) (fun e3 => ?_)
        · simp at e3
          simp [hb1, hne', wrap_succ (show fi l id < 1000000 by omega)]
          have hc := call30 (s := ((((((((s1.rdl ib).rdl i).rdl ib).rdl i).rdl i).wrl i (.cells (flat (l.set (fi l id) (l[fi l id].withA (l[fi l id].amount - amt))) ++ r))).rdl ib).rdl i).rdl ib) (l := l.set (fi l id) (l[fi l id].withA (l[fi l id].amount - amt))) (r := r) (i := i) (by simp) (by simpa using hi1) (by simp; omega) (fi l id) (by simpa using hj)
          rw [hset] at hc
          refine callB hc ?_
          rintro v s2 ⟨rfl, ⟨r2, hr2⟩, q2⟩
          have q6 : Quiet [i] s s2 := (((q5.rdl _).rdl _).rdl _).trans q2
          have hb2 : s2.h.get ib = some (.cells [openSl i 0 8 l.length, .bool true]) := by
            rw [q6.keep ib hib (by simp; omega)]; exact hb
          have hr2' : s2.h.get i = some (.cells (flat (erased l (fi l id)) ++ r2)) := by
            rw [hr2]; exact congrArg (fun x => some (Row.cells (flat x ++ r2))) (erased_set l _ _)
          simp [hb2]
          refine hQ _ _ ⟨?_, openSl i 0 8 (l.length - 1), by simp, ?_, ?_⟩
          · simp [lesE, hj]; omega
          · unfold lesL
            rw [dif_pos hj, if_neg (by omega), if_pos (by omega)]
            refine ⟨by simpa using Nat.lt_of_lt_of_le hi0 q6.n, .inr ⟨by rw [erased_length hj], r2, ?_⟩⟩
            simp [hne, hr2']
          · exact ((q6.sub (V := [i, ib]) (fun k hk => .inl (by simp at hk; simp [hk]))).rdl _).wrl _ _ (.inl (by simp))
        · simp at e3
          simp
          refine hQ _ _ ⟨?_, openSl i 0 8 l.length, by simp [hb1, hne'], ?_, ?_⟩
          · simp [lesE, hj]; omega
          · unfold lesL
            rw [dif_pos hj, if_neg (by omega), if_neg (by omega)]
            exact ⟨by simpa using hi1, .inr ⟨by simp, r, by simp⟩⟩
          · repeat (first | exact q1.nil | refine Quiet.wrl ?_ _ _ (.inl (by simp)) | apply Quiet.rdl)
  · simp
    refine hQ _ _ ⟨by simp [lesE, hj], vb, hb1, ?_, q1.nil⟩
    simp [lesL, hj]
    exact h1

/-- lombardref21.Less -/
theorem call25 {s : St} {i : Nat} {v : Value} {l : List Qo} (h : Sq s v l i) (hi : i < s.n) (hsm : l.length ≤ 900) (hA : ∀ q ∈ l, q.amount ≤ 1125899906842624) (id amt : Int) :
    CallA Tryz.prog Tryz.tab 25 [v, .int .i64 id, .int .i64 amt] s fun r s' => ∃ v' i', r = .tuple (List.toArray [v', .int .i64 (lesE l id amt)]) ∧ Sq s' v' (lesL l id amt) i' ∧ i' < s'.n ∧ (i' = i ∧ v' = v ∨ s.n ≤ i') ∧ Quiet [] s s' := by
  refine callA_q fun Q hQ => ?_
  refine callA_of (fn := Tryz.f25) (n := 53) (rs := [.tmp 6, .tmp 7]) (by kernel_rfl) rfl rfl rfl (by simp) ?_
  simp
  refine callB (call46 h (by omega) id) ?_
  rintro v1 s1 ⟨hv, q1⟩
  have h1 := h.move q1 (by simp)
  have m1 := q1.n
  rcases hv.fi with ⟨rfl, hj⟩ | ⟨rfl, hj⟩
  · simp
    rw [show decide ((fi l id : Int) < 0) = false from by simp]
    simp
    refine testB (fun e => ?_) (fun e => ?_)
    · simp
      simp at e
      refine hQ _ _ ⟨v, i, ?_, ?_, by omega, .inl ⟨rfl, rfl⟩, q1⟩
      · have : lesE l id amt = 1 := by simp [lesE, hj]; omega
        rw [this]
      · unfold lesL
        rw [dif_pos hj, if_pos (.inl (by omega))]
        exact h1
    · simp at e
      obtain ⟨hi1, r, hr⟩ := h1.row hj
      simp [h1.ia _ hj, hr, hj]
      refine testB (fun e2 => ?_) (fun e2 => ?_)
      · simp
        simp at e2
        refine hQ _ _ ⟨v, i, ?_, ?_, by simp; omega, .inl ⟨rfl, rfl⟩, q1.rdl _⟩
        · have : lesE l id amt = 1 := by simp [lesE, hj]; omega
          rw [this]
        · unfold lesL
          rw [dif_pos hj, if_pos (.inr (by omega))]
          exact h1.move ((Quiet.refl [] _).rdl i) (by simp)
      · simp at e2
        have hamt := hA _ (List.getElem_mem hj)
        have hw : IntKind.i64.wrap (l[fi l id].amount - amt) = l[fi l id].amount - amt := wrap_small (by omega) (by omega)
        have hE : lesE l id amt = 0 := by simp [lesE, hj]; omega
        simp [h1.ia _ hj, hr, hj]
        refine testB (fun e3 => ?_) (fun e3 => ?_)
        · simp at e3
          simp
          refine callB (call48 (s := (s1.rdl i).rdl i) (Sq.move h1 (((Quiet.refl [] _).rdl i).rdl i) (by simp)) (by omega) (fi l id) hj) ?_
          rintro v2 s2 ⟨i2, h2, hi2, hi2', q2⟩
          simp
          simp at hi2
          refine hQ _ _ ⟨v2, i2, by rw [hE], ?_, hi2', .inr (by omega), ((q1.rdl _).rdl _).trans q2⟩
          unfold lesL
          rw [dif_pos hj, if_neg (by omega), if_pos (by omega)]
          exact h2
        · simp at e3
          simp
          refine buildSlice0_ok t25 z29 rfl fun v0 s2 h2 nn2 q2 n2 _ => ?_
          simp
          have h3 : Sq s2 v l i := Sq.move h1 ((((Quiet.refl [] _).rdl i).rdl i).trans q2) (by simp)
          refine append_ok t25 t25.1 h2 (Sl.src h3) rfl (plains_flat _) (by omega) fun v4 s4 i4 h4 q4 c4 nn4 _ op4 _ => ?_
          simp
          simp at c4 h4
          have m2 := q2.n
          simp at m2
          have q5 : Quiet [] s s4 := (((q1.rdl _).rdl _).trans q2).then q4 (by simp; omega)
          have h5 : Sq s4 v4 l i4 := h4
          obtain ⟨hi4, r4, hr4⟩ := h5.row hj
          simp [h5.ia _ hj, hr4, hj, hw, lay_amount hj]
          have q6 : Quiet [i4] s4 ((((s4.rdl i4).rdl i4).wrl i4 (.cells (flat (l.set (fi l id) (l[fi l id].withA (l[fi l id].amount - amt))) ++ r4)))) := (((Quiet.refl _ _).rdl _).rdl _).wrl _ _ (.inl (by simp))
          refine hQ _ _ ⟨v4, i4, by rw [hE], ?_, by simpa using hi4, .inr (by rcases c4 with rfl | c4 <;> omega), q5.then q6 (by rcases c4 with rfl | c4 <;> omega)⟩
          unfold lesL
          rw [dif_pos hj, if_neg (by omega), if_neg (by omega)]
          refine ⟨flat_length _, .inr ⟨by simpa using hi4, ?_, r4, by simp⟩⟩
          have := op4 (by omega)
          simp at this
          exact ⟨some 8, 0, by simpa [openSl] using this, .inr ⟨rfl, rfl⟩⟩
  · simp
    refine hQ _ _ ⟨v, i, by simp [lesE, hj], ?_, by omega, .inl ⟨rfl, rfl⟩, q1⟩
    simp [lesL, hj]
    exact h1
end Go.Proofs.Qt
