/- Quotes: closures, searching. -/
import Derived.Test.YtefogennhgacjaaGreatQtA
namespace Go.Proofs.Qt
open Go Go.Ax Go.Proofs
set_option maxRecDepth 100000
set_option linter.unusedSimpArgs false
set_option linter.unusedVariables false

theorem call50 {s : St} {q : Qo} {b : Nat} {x : Int} (hb : s.h.get b = some (.cells [.int .i64 x])) (hl : b < s.n) :
    CallA Tryz.prog Tryz.tab 50 [q.val, ptr b 0] s fun v s' => v = .bool (decide (q.id = x)) ∧ Quiet [] s s' := by
  refine callA_of (fn := Tryz.f50) (n := 8) (rs := [.tmp 3]) (by kernel_rfl) rfl rfl rfl (by simp) ?_
  simp [hb, Nat.ne_of_lt hl]
  simp [TestB]
  exact ((((Quiet.refl _ _).nw _).rdl _).rdl _)

theorem call38 {s : St} {q : Qo} {b : Nat} {x : Int} (hb : s.h.get b = some (.cells [.int .i64 x])) (hl : b < s.n) :
    CallA Tryz.prog Tryz.tab 38 [q.val, ptr b 0] s fun v s' => v = .bool (decide (q.member = x)) ∧ Quiet [] s s' := by
  refine callA_of (fn := Tryz.f38) (n := 8) (rs := [.tmp 3]) (by kernel_rfl) rfl rfl rfl (by simp) ?_
  simp [hb, Nat.ne_of_lt hl]
  simp [TestB]
  exact ((((Quiet.refl _ _).nw _).rdl _).rdl _)

theorem call39 {s : St} {q : Qo} {b : Nat} {x : Int} (hb : s.h.get b = some (.cells [.int .i64 x])) (hl : b < s.n) :
    CallA Tryz.prog Tryz.tab 39 [q.val, ptr b 0] s fun v s' => v = .bool (decide (q.start < x)) ∧ Quiet [] s s' := by
  refine callA_of (fn := Tryz.f39) (n := 8) (rs := [.tmp 3]) (by kernel_rfl) rfl rfl rfl (by simp) ?_
  simp [hb, Nat.ne_of_lt hl]
  simp [TestB]
  exact ((((Quiet.refl _ _).nw _).rdl _).rdl _)

/-- Where the first element is of which p holds. -/
def Idx (p : Qo → Bool) (l : List Qo) (v : Value) : Prop :=
  (∃ j : Nat, v = .int .i64 (j : Int) ∧ ∃ h : j < l.length, p l[j] = true ∧ ∀ m (hm : m < j), p l[m] = false) ∨ (v = .int .i64 (-1) ∧ ∀ m (hm : m < l.length), p l[m] = false)

theorem wrap_small {a : Int} (h1 : -9223372036854775808 ≤ a) (h2 : a < 9223372036854775808) : IntKind.i64.wrap a = a := by
  have key : IntKind.i64.wrap a = if 9223372036854775808 ≤ a % 18446744073709551616 then a % 18446744073709551616 - 18446744073709551616 else a % 18446744073709551616 := by
    simp [IntKind.wrap, IntKind.signed, IntKind.bits]
  rw [key]
  by_cases h : 9223372036854775808 ≤ a % 18446744073709551616
  · rw [if_pos h]; omega
  · rw [if_neg h]; omega

theorem wrap_succ {j : Nat} (h : j < 1000000) : IntKind.i64.wrap ((j : Int) + 1) = ((j + 1 : Nat) : Int) := by
  rw [wrap_small (by omega) (by omega)]; rfl

/-- slices.IndexFunc -/
theorem call49 {s : St} {v : Value} {l : List Qo} {i : Nat} (h : Sq s v l i) (hsm : l.length ≤ 1000) {g : FuncId} {cs : List Value} {p : Qo → Bool}
    (hf : ∀ s' q, Quiet [] s s' → CallA Tryz.prog Tryz.tab g (q.val :: cs) s' fun v s'' => v = .bool (p q) ∧ Quiet [] s' s'') :
    CallA Tryz.prog Tryz.tab 49 [v, .func (.func g) (List.toArray []) (List.toArray cs)] s fun v s' => Idx p l v ∧ Quiet [] s s' := by
  refine callA_of (fn := Tryz.f49) (n := 19) (rs := [.tmp 4]) (by kernel_rfl) rfl rfl rfl (by simp) ?_
  simp [h.len]
  refine loopB (fun k f s1 => f.n = 19 ∧ f.get 0 = v ∧ f.get 1 = .func (.func g) (List.toArray []) (List.toArray cs) ∧ f.get 7 = .int .i64 l.length ∧
    ∃ j : Nat, k = l.length - j ∧ j ≤ l.length ∧ f.get 8 = .int .i64 j ∧ (∀ m (hm : m < l.length), m < j → p l[m] = false) ∧ Quiet [] s s1) ?_ (k := l.length) ?_
  · rintro k f s1 ⟨hn, h0, h1, h7, j, hk, hjl, h8, hall, hq⟩
    have h' := h.move hq (by simp)
    simp [hn, h0, h1, h7, h8]
    refine testB (fun t => ?_) (fun t => ?_)
    · have hj : j < l.length := by simpa using t
      obtain ⟨hi, r, hr⟩ := h'.row hj
      simp [hn, h0, h1, h7, h8, h'.ia j hj, hr, hj]
      refine callB (hf _ _ (hq.rdl _)) ?_
      rintro v s2 ⟨rfl, hq2⟩
      simp [hn, h0, h1, h7, h8]
      cases hp : p l[j] with
      | true =>
        simp [hn, h0, h1, h7, h8]
        refine ⟨.inl ⟨j, rfl, hj, hp, fun m hm => hall m (by omega) hm⟩, (hq.rdl _).trans hq2⟩
      | false =>
        simp [hn, h0, h1, h7, h8]
        refine ⟨l.length - (j + 1), by omega, j + 1, rfl, by omega, wrap_succ (by omega), fun m hm hmj => ?_, (hq.rdl _).trans hq2⟩
        by_cases e : m = j
        · subst e; exact hp
        · exact hall m hm (by omega)
    · have hj : ¬ j < l.length := by simpa using t
      simp [hn, h0, h1, h7, h8]
      exact ⟨.inr ⟨rfl, fun m hm => hall m hm (by omega)⟩, hq⟩
  · simp
    exact ⟨0, by simp, by simp, by simp, by simp, .refl _ _⟩
end Go.Proofs.Qt
