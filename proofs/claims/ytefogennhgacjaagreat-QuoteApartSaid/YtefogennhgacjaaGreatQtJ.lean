/- Quotes: Cancel and Less, of both sides. -/
import Derived.Test.YtefogennhgacjaaGreatQtI
namespace Go.Proofs.Qt
open Go Go.Ax Go.Proofs
set_option maxRecDepth 100000
set_option linter.unusedSimpArgs false
set_option linter.unusedVariables false

/-- Where a quote is. -/
def fi (l : List Qo) (id : Int) : Nat := l.findIdx fun q => decide (q.id = id)

theorem Idx.fi {l : List Qo} {id : Int} {v : Value} (h : Idx (fun q => decide (q.id = id)) l v) :
    (v = .int .i64 (fi l id : Int) ∧ fi l id < l.length) ∨ (v = .int .i64 (-1) ∧ ¬ fi l id < l.length) := by
  rcases h with ⟨j, rfl, hj, hp, hall⟩ | ⟨rfl, hall⟩
  · have : Qt.fi l id = j := (List.findIdx_eq hj).2 ⟨hp, fun m hm => by simpa using hall m hm⟩
    rw [this]
    exact .inl ⟨rfl, hj⟩
  · refine .inr ⟨rfl, fun h => ?_⟩
    have := @List.findIdx_getElem Qo (fun q => decide (q.id = id)) l h
    have h2 := hall _ h
    simp at this h2
    exact h2 this

def erased (l : List Qo) (j : Nat) : List Qo := l.take j ++ l.drop (j + 1)

def canE (l : List Qo) (m id : Int) : Int := if h : fi l id < l.length then if l[fi l id].member = m then 0 else 22 else 6
def canL (l : List Qo) (m id : Int) : List Qo := if h : fi l id < l.length then if l[fi l id].member = m then erased l (fi l id) else l else l

/-- (*Board).Cancel -/
theorem call11 {s : St} {ib i : Nat} {vb : Value} {l : List Qo} (hb : s.h.get ib = some (.cells [vb, .bool true])) (hib : ib < s.n) (h : Bq s vb l i) (hne : i ≠ ib) (hsm : l.length ≤ 900) (m id : Int) :
    CallA Tryz.prog Tryz.tab 11 [ptr ib 0, .int .i64 m, .int .i64 id] s fun v s' => v = .int .i64 (canE l m id) ∧ ∃ vb', s'.h.get ib = some (.cells [vb', .bool true]) ∧ Bq s' vb' (canL l m id) i ∧ Quiet [i, ib] s s' := by
  have hi0 := h.1
  refine callA_q fun Q hQ => ?_
  refine callA_of (fn := Tryz.f11) (n := 45) (rs := [.tmp 6]) (by kernel_rfl) rfl rfl rfl (by simp) ?_
  simp [hb]
  have q0 : Quiet [] s (s.rdl ib) := (Quiet.refl _ _).rdl _
  refine callB (call29 (s := s.rdl ib) (v := vb) (b := .bool true) (l := l) (i := i) (by simpa using hb) (by simpa using hib) (h.sq.move q0 (by simp)) (by simpa using hi0) (by omega) id) ?_
  rintro v s1 ⟨hv, q1'⟩
  have q1 : Quiet [] s s1 := q0.trans q1'
  have hb1 : s1.h.get ib = some (.cells [vb, .bool true]) := by rw [q1.keep ib hib (by simp)]; exact hb
  have h1 := h.move q1 (by simp)
  rcases hv.fi with ⟨rfl, hj⟩ | ⟨rfl, hj⟩
  · simp
    rw [show decide ((fi l id : Int) < 0) = false from by simp]
    simp [hb1, h1.sq.ia _ hj]
    obtain ⟨hi1, r, hr⟩ := h1.sq.row hj
    simp [hr, hj]
    refine testB (fun e => ?_) (fun e => ?_)
    · simp
      simp at e
      refine hQ _ _ ⟨by simp [canE, hj, e], vb, by simpa using hb1, ?_, ((q1.rdl _).rdl _).nil⟩
      simp [canL, hj, e]
      exact h1.move (((Quiet.refl [] _).rdl ib).rdl i) (by simp)
    · simp [hb1, wrap_succ (show fi l id < 1000000 by omega)]
      simp at e
      obtain ⟨-, ⟨rfl, rfl⟩ | ⟨rfl, r', hr'⟩⟩ := h1
      · simp at hj
      refine callB (call30 (s := ((s1.rdl ib).rdl i).rdl ib) (l := l) (r := r) (i := i) (by simpa using hr) (by simpa using hi1) (by omega) (fi l id) hj) ?_
      rintro v s2 ⟨rfl, ⟨r2, hr2⟩, q2⟩
      have q3 : Quiet [i] s s2 := (((q1.rdl _).rdl _).rdl _).nil.trans q2
      have hb2 : s2.h.get ib = some (.cells [openSl i 0 8 l.length, .bool true]) := by
        rw [q3.keep ib hib (by simp; omega)]; exact hb
      simp [hb2]
      refine hQ _ _ ⟨by simp [canE, hj, e], openSl i 0 8 (l.length - 1), by simp, ?_, ?_⟩
      · simp [canL, hj, e]
        refine ⟨by simpa using Nat.lt_of_lt_of_le hi0 q3.n, .inr ⟨?_, r2, ?_⟩⟩
        · unfold erased
          congr 1
          simp; omega
        · simp [hne, hr2, erased]
      · exact ((q3.sub (V := [i, ib]) (fun k hk => .inl (by simp at hk; simp [hk]))).rdl _).wrl _ _ (.inl (by simp))
  · simp
    refine hQ _ _ ⟨by simp [canE, hj], vb, hb1, ?_, q1.nil⟩
    simp [canL, hj]
    exact h1

/-- lombardref21.Cancel -/
theorem call24 {s : St} {i : Nat} {v : Value} {l : List Qo} (h : Sq s v l i) (hi : i < s.n) (hsm : l.length ≤ 900) (m id : Int) :
    CallA Tryz.prog Tryz.tab 24 [v, .int .i64 m, .int .i64 id] s fun r s' => ∃ v' i', r = .tuple (List.toArray [v', .int .i64 (canE l m id)]) ∧ Sq s' v' (canL l m id) i' ∧ i' < s'.n ∧ (i' = i ∧ v' = v ∨ s.n ≤ i') ∧ Quiet [] s s' := by
  refine callA_q fun Q hQ => ?_
  refine callA_of (fn := Tryz.f24) (n := 26) (rs := [.tmp 6, .tmp 7]) (by kernel_rfl) rfl rfl rfl (by simp) ?_
  simp
  refine callB (call46 h (by omega) id) ?_
  rintro v1 s1 ⟨hv, q1⟩
  have h1 := h.move q1 (by simp)
  have m1 := q1.n
  rcases hv.fi with ⟨rfl, hj⟩ | ⟨rfl, hj⟩
  · simp
    rw [show decide ((fi l id : Int) < 0) = false from by simp]
    obtain ⟨hi1, r, hr⟩ := h1.row hj
    simp [h1.ia _ hj, hr, hj]
    refine testB (fun e => ?_) (fun e => ?_)
    · simp
      simp at e
      refine hQ _ _ ⟨v, i, by simp [canE, hj, e], ?_, by simp; omega, .inl ⟨rfl, rfl⟩, q1.rdl _⟩
      simp [canL, hj, e]
      exact h1.move ((Quiet.refl [] _).rdl i) (by simp)
    · simp
      simp at e
      refine callB (call48 (s := s1.rdl i) (h1.move ((Quiet.refl [] _).rdl i) (by simp)) (by omega) (fi l id) hj) ?_
      rintro v2 s2 ⟨i2, h2, hi2, hi2', q2⟩
      simp
      simp at hi2
      refine hQ _ _ ⟨v2, i2, by simp [canE, hj, e], ?_, ?_, .inr (by omega), (q1.rdl _).trans q2⟩
      · simp [canL, hj, e]
        exact h2
      · exact hi2'
  · simp
    refine hQ _ _ ⟨v, i, by simp [canE, hj], ?_, by omega, .inl ⟨rfl, rfl⟩, q1⟩
    simp [canL, hj]
    exact h1
end Go.Proofs.Qt
