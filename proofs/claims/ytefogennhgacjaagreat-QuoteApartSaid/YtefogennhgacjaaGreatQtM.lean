/- Quotes: clones; boards that aren't made. -/
import Derived.Test.YtefogennhgacjaaGreatQtL
namespace Go.Proofs.Qt
open Go Go.Ax Go.Proofs
set_option maxRecDepth 100000
set_option linter.unusedSimpArgs false
set_option linter.unusedVariables false

@[simp] theorem evals_bool (f : AF) (b : Bool) (l : List Operand) : evals f (.const (.bool b) :: l) = (evals f l).map (.bool b :: ·) := by
  simp only [evals, eval_bool]; cases evals f l <;> rfl
@[simp] theorem evals_nilp (f : AF) (l : List Operand) : evals f (.const (.pointer none) :: l) = (evals f l).map (.pointer none :: ·) := by
  simp only [evals, eval_nilp]; cases evals f l <;> rfl
@[simp] theorem evals_func (f : AF) (g : FuncId) (l : List Operand) : evals f (.func g :: l) = (evals f l).map (.func (.func g) #[] #[] :: ·) := by
  simp only [evals, eval_func]; cases evals f l <;> rfl
theorem loopB_un {P : Program} {tab : Tab} {b : Code} {f : AF} {s : St} {Q : X → AF → St → Prop} (h : Runs P tab b f s (Then P tab (.loop b) Q)) : @LoopB P tab f s ⟨b⟩ ⟨Q⟩ := runs_loop h
@[simp ↓] theorem one_nil : one [] = .tuple ⟨[]⟩ := rfl
theorem Sl.slice {s : St} {v : Value} {sz n i : Nat} {cs : List Value} (h : Sl s v sz n cs i) : ∃ a m c, v = .slice a m c := by
  rcases h.2 with ⟨rfl, _⟩ | ⟨_, ⟨_, _, rfl, _⟩, _⟩
  · exact ⟨_, _, _, rfl⟩
  · exact ⟨_, _, _, rfl⟩
@[simp] theorem bd35 (a : Option Addr) (m c : Nat) : aBuild Tryz.prog 35 [(0, .slice a m c), (1, .bool true)] = some (.agg (List.toArray [.slice a m c, .bool true])) := by kernel_rfl
@[simp] theorem bd35m : aBuild Tryz.prog 35 [(1, .bool true)] = some (.agg (List.toArray [.slice none 0 0, .bool true])) := by kernel_rfl
@[simp] theorem bd35u : aBuild Tryz.prog 35 [] = some (.agg (List.toArray [.slice none 0 0, .bool false])) := by kernel_rfl
@[simp] theorem plains_sb (a : Option Addr) (m c : Nat) (b : Bool) : plains [.slice a m c, .bool b] = true := rfl
def q0 : Qo := ⟨0, 0, 0, 0, 0, 0, 0, 0⟩
@[simp] theorem bd29 : aBuild Tryz.prog 29 [] = some q0.val := by kernel_rfl
@[simp] theorem bd46 : aBuild Tryz.prog 46 [] = some (.agg (List.toArray [.int .i64 0, .int .i64 0, .int .i64 0])) := by kernel_rfl
@[simp ↓] theorem eqp23n (x y : Operand) (K : Value → Prop) : @BinB Tryz.prog .eql 23 x y (.pointer none) (.pointer none) ⟨K⟩ ↔ K (.bool true) := by
  unfold BinB
  rw [show aBin Tryz.prog .eql 23 x y (.pointer none) (.pointer none) = some (.bool true) from by kernel_rfl]
  exact bindO_some _ _
@[simp ↓] theorem neq23n (x y : Operand) (K : Value → Prop) : @BinB Tryz.prog .neq 23 x y (.pointer none) (.pointer none) ⟨K⟩ ↔ K (.bool false) := by
  unfold BinB
  rw [show aBin Tryz.prog .neq 23 x y (.pointer none) (.pointer none) = some (.bool false) from by kernel_rfl]
  exact bindO_some _ _

/-- quote.New -/
theorem call5 (s : St) : CallA Tryz.prog Tryz.tab 5 [] s fun v s' => v = ptr s.n 0 ∧ s' = s.nw (.cells [.slice none 0 0, .bool true]) := by
  refine callA_q fun Q hQ => ?_
  refine callA_of (fn := Tryz.f5) (n := 3) (rs := [.tmp 0]) (by kernel_rfl) rfl rfl rfl (by simp) ?_
  simp
  exact hQ _ _ ⟨rfl, rfl⟩

/-- (*Board).Clone -/
theorem call7 {s : St} {ib i : Nat} {vb : Value} {l : List Qo} (hb : s.h.get ib = some (.cells [vb, .bool true])) (hib : ib < s.n) (h : Bq s vb l i) (hsm : l.length ≤ 900) :
    CallA Tryz.prog Tryz.tab 7 [ptr ib 0] s fun v s' => ∃ ic vc jc, v = ptr ic 0 ∧ s.n ≤ ic ∧ ic < s'.n ∧ s'.h.get ic = some (.cells [vc, .bool true]) ∧ Sq s' vc l jc ∧ s.n ≤ jc ∧ Quiet [] s s' := by
  refine callA_q fun Q hQ => ?_
  refine callA_of (fn := Tryz.f7) (n := 19) (rs := [.tmp 2]) (by kernel_rfl) rfl rfl rfl (by simp) ?_
  simp [hb]
  refine callB (call28 (Sq.move (W := []) h.sq (by repeat (first | exact Quiet.refl _ _ | apply Quiet.rdl)) (by simp)) (by omega)) ?_
  rintro v s1 ⟨jc, h1, hj, q1⟩
  have q2 : Quiet [] s s1 := Quiet.trans (by repeat (first | exact Quiet.refl _ _ | apply Quiet.rdl)) q1
  have m2 := q2.n
  obtain ⟨a, m, c, rfl⟩ := Sl.slice h1
  simp at hj
  simp
  exact hQ _ _ ⟨s1.n, .slice a m c, jc, rfl, by omega, by simp, by simp, Sl.move h1 ((Quiet.refl [] _).nw _) (by simp), hj, q2.nw _⟩

/-- (*Board).All -/
theorem call9 {s : St} {fl : Value} {ib i : Nat} {vb : Value} {l : List Qo} (hb : s.h.get ib = some (.cells [vb, fl])) (h : Sq s vb l i) (hsm : l.length ≤ 900) :
    CallA Tryz.prog Tryz.tab 9 [ptr ib 0] s fun v s' => ∃ j, Sq s' v l j ∧ Quiet [] s s' := by
  refine callA_q fun Q hQ => ?_
  refine callA_of (fn := Tryz.f9) (n := 10) (rs := [.tmp 2]) (by kernel_rfl) rfl rfl rfl (by simp) ?_
  simp [hb]
  refine callB (call28 (Sq.move (W := []) h (by repeat (first | exact Quiet.refl _ _ | apply Quiet.rdl)) (by simp)) (by omega)) ?_
  rintro v s1 ⟨jc, h1, hj, q1⟩
  simp
  exact hQ _ _ ⟨jc, h1, Quiet.trans (by repeat (first | exact Quiet.refl _ _ | apply Quiet.rdl)) q1⟩

/-! ### no board -/
theorem call22n (q : Qo) (s : St) : CallA Tryz.prog Tryz.tab 22 [.pointer none, q.val] s fun v s' => v = .int .i64 3 ∧ Quiet [] s s' := by
  refine callA_q fun Q hQ => ?_
  refine callA_of (fn := Tryz.f22) (n := 35) (rs := [.tmp 4]) (by kernel_rfl) rfl rfl rfl (by simp) ?_
  simp
  exact hQ _ _ ⟨rfl, (Quiet.refl _ _).nw _⟩
theorem call10n (q : Qo) (s : St) : CallA Tryz.prog Tryz.tab 10 [.pointer none, q.val] s fun v s' => v = .int .i64 3 ∧ Quiet [] s s' := by
  refine callA_q fun Q hQ => ?_
  refine callA_of (fn := Tryz.f10) (n := 22) (rs := [.tmp 4]) (by kernel_rfl) rfl rfl rfl (by simp) ?_
  simp
  refine callB (call22n q _) ?_
  rintro v s1 ⟨rfl, q1⟩
  simp
  exact hQ _ _ ⟨rfl, Quiet.trans (((Quiet.refl _ _).nw _).rdl _) q1⟩
theorem call11n (a b : Int) (s : St) : CallA Tryz.prog Tryz.tab 11 [.pointer none, .int .i64 a, .int .i64 b] s fun v s' => v = .int .i64 3 ∧ Quiet [] s s' := by
  refine callA_q fun Q hQ => ?_
  refine callA_of (fn := Tryz.f11) (n := 45) (rs := [.tmp 6]) (by kernel_rfl) rfl rfl rfl (by simp) ?_
  simp
  exact hQ _ _ ⟨rfl, Quiet.refl _ _⟩
theorem call12n (a b : Int) (s : St) : CallA Tryz.prog Tryz.tab 12 [.pointer none, .int .i64 a, .int .i64 b] s fun v s' => v = .int .i64 3 ∧ Quiet [] s s' := by
  refine callA_q fun Q hQ => ?_
  refine callA_of (fn := Tryz.f12) (n := 70) (rs := [.tmp 6]) (by kernel_rfl) rfl rfl rfl (by simp) ?_
  simp
  exact hQ _ _ ⟨rfl, Quiet.refl _ _⟩
theorem call9n (s : St) : CallA Tryz.prog Tryz.tab 9 [.pointer none] s fun v s' => v = .slice none 0 0 ∧ Quiet [] s s' := by
  refine callA_q fun Q hQ => ?_
  refine callA_of (fn := Tryz.f9) (n := 10) (rs := [.tmp 2]) (by kernel_rfl) rfl rfl rfl (by simp) ?_
  simp
  exact hQ _ _ ⟨rfl, Quiet.refl _ _⟩
theorem call13n (s : St) : CallA Tryz.prog Tryz.tab 13 [.pointer none] s fun v s' => v = .slice none 0 0 ∧ Quiet [] s s' := by
  refine callA_q fun Q hQ => ?_
  refine callA_of (fn := Tryz.f13) (n := 27) (rs := [.tmp 2]) (by kernel_rfl) rfl rfl rfl (by simp) ?_
  simp
  exact hQ _ _ ⟨rfl, Quiet.refl _ _⟩
theorem call37n (F : Value) (s : St) : CallA Tryz.prog Tryz.tab 37 [.pointer none, F] s fun v s' => v = .slice none 0 0 ∧ Quiet [] s s' := by
  refine callA_q fun Q hQ => ?_
  refine callA_of (fn := Tryz.f37) (n := 38) (rs := [.tmp 4]) (by kernel_rfl) rfl rfl rfl (by simp) ?_
  simp
  exact hQ _ _ ⟨rfl, Quiet.refl _ _⟩
theorem call14n (a : Int) (s : St) : CallA Tryz.prog Tryz.tab 14 [.pointer none, .int .i64 a] s fun v s' => v = .slice none 0 0 ∧ Quiet [] s s' := by
  refine callA_q fun Q hQ => ?_
  refine callA_of (fn := Tryz.f14) (n := 8) (rs := [.tmp 4]) (by kernel_rfl) rfl rfl rfl (by simp) ?_
  simp
  refine callB (call37n _ _) ?_
  rintro v s1 ⟨rfl, q1⟩
  simp
  exact hQ _ _ ⟨rfl, Quiet.trans ((Quiet.refl _ _).nw _) q1⟩
theorem call15n (a : Int) (s : St) : CallA Tryz.prog Tryz.tab 15 [.pointer none, .int .i64 a] s fun v s' => v = .slice none 0 0 ∧ Quiet [] s s' := by
  refine callA_q fun Q hQ => ?_
  refine callA_of (fn := Tryz.f15) (n := 8) (rs := [.tmp 4]) (by kernel_rfl) rfl rfl rfl (by simp) ?_
  simp
  refine callB (call37n _ _) ?_
  rintro v s1 ⟨rfl, q1⟩
  simp
  exact hQ _ _ ⟨rfl, Quiet.trans ((Quiet.refl _ _).nw _) q1⟩
theorem call16n (a b c d : Int) (s : St) : CallA Tryz.prog Tryz.tab 16 [.pointer none, .agg (List.toArray [.int .i64 a, .int .i64 b, .int .i64 c]), .int .i64 d] s fun v s' => v = .slice none 0 0 ∧ Quiet [] s s' := by
  refine callA_q fun Q hQ => ?_
  refine callA_of (fn := Tryz.f16) (n := 40) (rs := [.tmp 6]) (by kernel_rfl) rfl rfl rfl (by simp) ?_
  simp
  exact hQ _ _ ⟨rfl, ((Quiet.refl _ _).nw _).nw _⟩
theorem call7n (s : St) : CallA Tryz.prog Tryz.tab 7 [.pointer none] s fun v s' => v = .pointer none ∧ Quiet [] s s' := by
  refine callA_q fun Q hQ => ?_
  refine callA_of (fn := Tryz.f7) (n := 19) (rs := [.tmp 2]) (by kernel_rfl) rfl rfl rfl (by simp) ?_
  simp
  exact hQ _ _ ⟨rfl, Quiet.refl _ _⟩

/-! ### a board that isn't made -/
structure Un (s : St) (ix i : Nat) (vb : Value) : Prop where
  b : s.h.get ix = some (.cells [vb, .bool false])
  lt : ix < s.n
  hb : Bq s vb [] i
  ne : i ≠ ix
theorem Un.move {s s' : St} {ix i : Nat} {vb : Value} {W : List Nat} (h : Un s ix i vb) (q : Quiet W s s') (h1 : ix ∉ W) (h2 : i ∉ W) : Un s' ix i vb :=
  ⟨(q.keep ix h.lt h1).trans h.b, Nat.lt_of_lt_of_le h.lt q.n, h.hb.move q h2, h.ne⟩

theorem call22u {s : St} {ix i : Nat} {vb : Value} (u : Un s ix i vb) (q : Qo) : CallA Tryz.prog Tryz.tab 22 [ptr ix 0, q.val] s fun v s' => v = .int .i64 3 ∧ Quiet [] s s' := by
  refine callA_q fun Q hQ => ?_
  refine callA_of (fn := Tryz.f22) (n := 35) (rs := [.tmp 4]) (by kernel_rfl) rfl rfl rfl (by simp) ?_
  simp [u.b, Nat.ne_of_lt u.lt]
  exact hQ _ _ ⟨rfl, ((Quiet.refl _ _).nw _).rdl _⟩
theorem call10u {s : St} {ix i : Nat} {vb : Value} (u : Un s ix i vb) (q : Qo) : CallA Tryz.prog Tryz.tab 10 [ptr ix 0, q.val] s fun v s' => v = .int .i64 3 ∧ Quiet [] s s' := by
  refine callA_q fun Q hQ => ?_
  refine callA_of (fn := Tryz.f10) (n := 22) (rs := [.tmp 4]) (by kernel_rfl) rfl rfl rfl (by simp) ?_
  simp
  have q1 : Quiet [] s ((s.nw (.cells q.enc)).rdl s.n) := ((Quiet.refl _ _).nw _).rdl _
  refine callB (call22u (u.move q1 (by simp) (by simp)) q) ?_
  rintro v s1 ⟨rfl, q2⟩
  simp
  exact hQ _ _ ⟨rfl, q1.trans q2⟩
theorem call11u {s : St} {ix i : Nat} {vb : Value} (u : Un s ix i vb) (a b : Int) : CallA Tryz.prog Tryz.tab 11 [ptr ix 0, .int .i64 a, .int .i64 b] s fun v s' => v = .int .i64 3 ∧ Quiet [] s s' := by
  refine callA_q fun Q hQ => ?_
  refine callA_of (fn := Tryz.f11) (n := 45) (rs := [.tmp 6]) (by kernel_rfl) rfl rfl rfl (by simp) ?_
  simp [u.b]
  exact hQ _ _ ⟨rfl, (Quiet.refl _ _).rdl _⟩
theorem call12u {s : St} {ix i : Nat} {vb : Value} (u : Un s ix i vb) (a b : Int) : CallA Tryz.prog Tryz.tab 12 [ptr ix 0, .int .i64 a, .int .i64 b] s fun v s' => v = .int .i64 3 ∧ Quiet [] s s' := by
  refine callA_q fun Q hQ => ?_
  refine callA_of (fn := Tryz.f12) (n := 70) (rs := [.tmp 6]) (by kernel_rfl) rfl rfl rfl (by simp) ?_
  simp [u.b]
  exact hQ _ _ ⟨rfl, (Quiet.refl _ _).rdl _⟩
theorem call7u {s : St} {ix i : Nat} {vb : Value} (u : Un s ix i vb) : CallA Tryz.prog Tryz.tab 7 [ptr ix 0] s fun v s' => v = .pointer none ∧ Quiet [] s s' := by
  refine callA_q fun Q hQ => ?_
  refine callA_of (fn := Tryz.f7) (n := 19) (rs := [.tmp 2]) (by kernel_rfl) rfl rfl rfl (by simp) ?_
  simp [u.b]
  exact hQ _ _ ⟨rfl, (Quiet.refl _ _).rdl _⟩

@[simp ↓] theorem cb32 (s : St) (Q : Value → St → Prop) : @CallB Tryz.prog Tryz.tab 32 [.slice none 0 0, .func (.func 33) #[] #[]] s ⟨Q⟩ ↔ Q (.tuple ⟨[]⟩) s := callB_iff ⟨0, _, _, by unfold callF; rw [show Tryz.tab.kn 32 [.slice none 0 0, .func (.func 33) #[] #[]] = some (.tuple ⟨[]⟩) from by kernel_rfl], rfl, rfl⟩ Q
@[simp ↓] theorem cb36 (s : St) (Q : Value → St → Prop) : @CallB Tryz.prog Tryz.tab 36 [.slice none 0 0] s ⟨Q⟩ ↔ Q (.slice none 0 0) s := callB_iff ⟨0, _, _, by unfold callF; rw [show Tryz.tab.kn 36 [.slice none 0 0] = some (.slice none 0 0) from by kernel_rfl], rfl, rfl⟩ Q
@[simp ↓] theorem cb17 (s : St) (Q : Value → St → Prop) : @CallB Tryz.prog Tryz.tab 17 [] s ⟨Q⟩ ↔ Q (.bool true) s := callB_iff ⟨0, _, _, by unfold callF; rw [show Tryz.tab.kn 17 [] = some (.bool true) from by kernel_rfl], rfl, rfl⟩ Q

theorem call13u {s : St} {ix i : Nat} {vb : Value} (u : Un s ix i vb) : CallA Tryz.prog Tryz.tab 13 [ptr ix 0] s fun v s' => v = .slice none 0 0 ∧ Quiet [] s s' := by
  refine callA_q fun Q hQ => ?_
  refine callA_of (fn := Tryz.f13) (n := 27) (rs := [.tmp 2]) (by kernel_rfl) rfl rfl rfl (by simp) ?_
  simp [u.b, u.hb.sq.len]
  refine loopB_un ?_
  simp
  exact hQ _ _ ⟨rfl, (Quiet.refl _ _).rdl _⟩

theorem call95e (F : Value) (s : St) : CallA Tryz.prog Tryz.tab 95 [.slice none 0 0, .int .i64 0, .int .i64 0, F] s fun v s' => v = .tuple ⟨[]⟩ ∧ Quiet [] s s' := by
  refine callA_q fun Q hQ => ?_
  refine callA_of (fn := Tryz.f95) (n := 53) (rs := []) (by kernel_rfl) rfl rfl rfl (by simp) ?_
  simp
  refine loopB_un ?_
  simp [wrap_small]
  exact hQ _ _ ⟨rfl, Quiet.refl _ _⟩
theorem call55e (F : Value) (s : St) : CallA Tryz.prog Tryz.tab 55 [.slice none 0 0, .int .i64 0, F] s fun v s' => v = .tuple ⟨[]⟩ ∧ Quiet [] s s' := by
  refine callA_q fun Q hQ => ?_
  refine callA_of (fn := Tryz.f55) (n := 63) (rs := []) (by kernel_rfl) rfl rfl rfl (by simp) ?_
  simp
  refine loopB_un ?_
  simp
  refine callB (call95e _ _) ?_
  rintro v s1 ⟨rfl, q1⟩
  simp
  refine loopB_un ?_
  simp
  exact hQ _ _ ⟨rfl, q1⟩
theorem call40e (F : Value) (s : St) : CallA Tryz.prog Tryz.tab 40 [.slice none 0 0, F] s fun v s' => v = .tuple ⟨[]⟩ ∧ Quiet [] s s' := by
  refine callA_q fun Q hQ => ?_
  refine callA_of (fn := Tryz.f40) (n := 9) (rs := []) (by kernel_rfl) rfl rfl rfl (by simp) ?_
  simp [(show aBuiltin Tryz.prog .len [25] [.slice none 0 0] = .ret (.int .i64 0) from len_of (e := 29) t25.1 _ _ _ (.inl rfl))]
  refine callB (call55e _ _) ?_
  rintro v s1 ⟨rfl, q1⟩
  simp
  exact hQ _ _ ⟨rfl, q1⟩

theorem call16u {s : St} {ix i : Nat} {vb : Value} (u : Un s ix i vb) (a b c d : Int) : CallA Tryz.prog Tryz.tab 16 [ptr ix 0, .agg (List.toArray [.int .i64 a, .int .i64 b, .int .i64 c]), .int .i64 d] s fun v s' => v = .slice none 0 0 ∧ Quiet [] s s' := by
  refine callA_q fun Q hQ => ?_
  refine callA_of (fn := Tryz.f16) (n := 40) (rs := [.tmp 6]) (by kernel_rfl) rfl rfl rfl (by simp) ?_
  have e1 : ix ≠ s.n := Nat.ne_of_lt u.lt
  have e2 : ix ≠ s.n + 1 := by have := u.lt; omega
  simp [u.b, e1, e2, u.hb.sq.len]
  refine loopB_un ?_
  simp
  refine callB (call40e _ _) ?_
  rintro v s1 ⟨rfl, q1⟩
  simp
  exact hQ _ _ ⟨rfl, Quiet.trans ((((Quiet.refl _ _).nw _).nw _).rdl _) q1⟩
end Go.Proofs.Qt
