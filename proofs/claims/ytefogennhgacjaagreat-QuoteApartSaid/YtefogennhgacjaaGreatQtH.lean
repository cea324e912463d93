/- Quotes: Check and Add, of both sides. -/
import Derived.Test.YtefogennhgacjaaGreatQtG
namespace Go.Proofs.Qt
open Go Go.Ax Go.Proofs
set_option maxRecDepth 100000
set_option linter.unusedSimpArgs false
set_option linter.unusedVariables false

@[simp ↓] theorem eqp23 (x y : Operand) (i o : Nat) (K : Value → Prop) : @BinB Tryz.prog .eql 23 x y (ptr i o) (.pointer none) ⟨K⟩ ↔ K (.bool false) := by
  unfold BinB
  rw [show aBin Tryz.prog .eql 23 x y (ptr i o) (.pointer none) = some (.bool false) from by kernel_rfl]
  exact bindO_some _ _

def has (l : List Qo) (id : Int) : Bool := l.any fun q => decide (q.id = id)
theorem Idx.any {l : List Qo} {id : Int} {v : Value} (h : Idx (fun q => decide (q.id = id)) l v) :
    (∃ j : Nat, v = .int .i64 (j : Int) ∧ ∃ hj : j < l.length, l[j].id = id ∧ (∀ m (hm : m < j), l[m].id ≠ id) ∧ has l id = true) ∨ (v = .int .i64 (-1) ∧ has l id = false) := by
  rcases h with ⟨j, rfl, hj, hp, hall⟩ | ⟨rfl, hall⟩
  · refine .inl ⟨j, rfl, hj, by simpa using hp, fun m hm => by simpa using hall m hm, ?_⟩
    unfold has
    rw [List.any_eq_true]
    exact ⟨l[j], List.getElem_mem hj, hp⟩
  · refine .inr ⟨rfl, ?_⟩
    unfold has
    rw [← Bool.not_eq_true, List.any_eq_true]
    rintro ⟨q, hq, hp⟩
    obtain ⟨m, hm, rfl⟩ := List.getElem_of_mem hq
    have := hall m hm
    simp at this hp
    exact this hp

def chk (l : List Qo) (q : Qo) : Int := if err q = 0 then if has l q.id then 7 else if l.length < 64 then 0 else 18 else err q

/-- (*Board).Check -/
theorem call22 {s : St} {ib i : Nat} {vb : Value} {l : List Qo} (hb : s.h.get ib = some (.cells [vb, .bool true])) (hib : ib < s.n) (h : Bq s vb l i) (hsm : l.length ≤ 1000) (q : Qo) :
    CallA Tryz.prog Tryz.tab 22 [ptr ib 0, q.val] s fun v s' => v = .int .i64 (chk l q) ∧ Quiet [] s s' := by
  refine callA_q fun Q hQ => ?_
  refine callA_of (fn := Tryz.f22) (n := 35) (rs := [.tmp 4]) (by kernel_rfl) rfl rfl rfl (by simp) ?_
  simp [hb, Nat.ne_of_lt hib]
  refine callB (call47 q _) ?_
  rintro v s1 ⟨rfl, q1⟩
  simp
  have q0 : Quiet [] s s1 := Quiet.trans (by repeat (first | exact Quiet.refl _ _ | apply Quiet.rdl | apply Quiet.nw)) q1
  have hbox : s1.h.get s.n = some (.cells q.enc) := by rw [q1.keep s.n (by simp) (by simp)]; simp
  have hb1 : s1.h.get ib = some (.cells [vb, .bool true]) := by rw [q0.keep ib hib (by simp)]; exact hb
  refine testB (fun e => ?_) (fun e => ?_)
  · simp
    simp at e
    exact hQ _ _ ⟨by simp [chk, e], q0⟩
  · simp [hbox, hb1]
    simp at e
    have h1 := h.move q0 (by simp)
    have hn := q0.n
    refine callB (call29 (s := s1.rdl s.n) (by simpa using hb1) (by simp; omega) (Sq.move h1.sq ((Quiet.refl [] _).rdl s.n) (by simp)) (by simpa using h1.1) hsm _) ?_
    rintro v s2 ⟨hv, q2⟩
    have q3 : Quiet [] s s2 := (q0.rdl _).trans q2
    have hb2 : s2.h.get ib = some (.cells [vb, .bool true]) := by rw [q3.keep ib hib (by simp)]; exact hb
    rcases hv.any with ⟨j, rfl, hj, hid, hall, hh⟩ | ⟨rfl, hh⟩
    · simp
      exact hQ _ _ ⟨by simp [chk, e, hh], q3⟩
    · simp [hb2, (h.move q3 (by simp)).sq.len]
      refine testB (fun e2 => ?_) (fun e2 => ?_)
      · simp
        simp at e2
        exact hQ _ _ ⟨by simp [chk, e, hh]; omega, q3.rdl _⟩
      · simp
        simp at e2
        exact hQ _ _ ⟨by simp [chk, e, hh]; omega, q3.rdl _⟩

/-- lombardref21.Check -/
theorem call21 {s : St} {i : Nat} {v : Value} {l : List Qo} (h : Sq s v l i) (hsm : l.length ≤ 1000) (q : Qo) :
    CallA Tryz.prog Tryz.tab 21 [v, q.val] s fun v s' => v = .int .i64 (chk l q) ∧ Quiet [] s s' := by
  refine callA_q fun Q hQ => ?_
  refine callA_of (fn := Tryz.f21) (n := 20) (rs := [.tmp 4]) (by kernel_rfl) rfl rfl rfl (by simp) ?_
  simp
  refine callB (call45 q _) ?_
  rintro v s1 ⟨rfl, q1⟩
  simp
  have q0 : Quiet [] s s1 := Quiet.trans (by repeat (first | exact Quiet.refl _ _ | apply Quiet.rdl | apply Quiet.nw)) q1
  have hbox : s1.h.get s.n = some (.cells q.enc) := by rw [q1.keep s.n (by simp) (by simp)]; simp
  refine testB (fun e => ?_) (fun e => ?_)
  · simp
    simp at e
    exact hQ _ _ ⟨by simp [chk, e], q0⟩
  · simp [hbox]
    simp at e
    refine callB (call46 (s := s1.rdl s.n) (Sq.move h (q0.rdl _) (by simp)) hsm _) ?_
    rintro v s2 ⟨hv, q2⟩
    have q3 : Quiet [] s s2 := (q0.rdl _).trans q2
    rcases hv.any with ⟨j, rfl, hj, hid, hall, hh⟩ | ⟨rfl, hh⟩
    · simp
      exact hQ _ _ ⟨by simp [chk, e, hh], q3⟩
    · simp [h.len]
      refine testB (fun e2 => ?_) (fun e2 => ?_)
      · simp
        simp at e2
        exact hQ _ _ ⟨by simp [chk, e, hh]; omega, q3⟩
      · simp
        simp at e2
        exact hQ _ _ ⟨by simp [chk, e, hh]; omega, q3⟩
end Go.Proofs.Qt
