/- Quotes: the checks of both sides. -/
import Derived.Test.YtefogennhgacjaaGreatQtF
namespace Go.Proofs.Qt
open Go Go.Ax Go.Proofs
set_option maxRecDepth 100000
set_option linter.unusedSimpArgs false
set_option linter.unusedVariables false

def inR (x lo hi : Int) : Bool := decide (lo ≤ x) && decide (x ≤ hi)

theorem call70 (x : Int) (s : St) : CallA Tryz.prog Tryz.tab 70 [.int .i64 x] s fun v s' => v = .bool (inR x 1 32) ∧ s' = s := by
  refine callA_q fun Q hQ => ?_
  refine callA_of (fn := Tryz.f70) (n := 9) (rs := [.tmp 2]) (by kernel_rfl) rfl rfl rfl (by simp) ?_
  simp
  refine testB (fun h => ?_) (fun h => ?_) <;> simp
  · simp [TestB]; exact hQ _ _ ⟨by simp [inR, h], rfl⟩
  · exact hQ _ _ ⟨by simp [inR, h], rfl⟩
theorem call74 (x : Int) (s : St) : CallA Tryz.prog Tryz.tab 74 [.int .i64 x] s fun v s' => v = .bool (inR x 1 32) ∧ s' = s := by
  refine callA_q fun Q hQ => ?_
  refine callA_of (fn := Tryz.f74) (n := 9) (rs := [.tmp 2]) (by kernel_rfl) rfl rfl rfl (by simp) ?_
  simp
  refine testB (fun h => ?_) (fun h => ?_) <;> simp
  · simp [TestB]; exact hQ _ _ ⟨by simp [inR, h], rfl⟩
  · exact hQ _ _ ⟨by simp [inR, h], rfl⟩
theorem call124 (x : Int) (s : St) : CallA Tryz.prog Tryz.tab 124 [.int .i64 x] s fun v s' => v = .bool (inR x 1 1125899906842624) ∧ s' = s := by
  refine callA_q fun Q hQ => ?_
  refine callA_of (fn := Tryz.f124) (n := 9) (rs := [.tmp 2]) (by kernel_rfl) rfl rfl rfl (by simp) ?_
  simp
  refine testB (fun h => ?_) (fun h => ?_) <;> simp
  · simp [TestB]; exact hQ _ _ ⟨by simp [inR, h], rfl⟩
  · exact hQ _ _ ⟨by simp [inR, h], rfl⟩
theorem call125 (x : Int) (s : St) : CallA Tryz.prog Tryz.tab 125 [.int .i64 x] s fun v s' => v = .bool (inR x 0 200000) ∧ s' = s := by
  refine callA_q fun Q hQ => ?_
  refine callA_of (fn := Tryz.f125) (n := 9) (rs := [.tmp 2]) (by kernel_rfl) rfl rfl rfl (by simp) ?_
  simp
  refine testB (fun h => ?_) (fun h => ?_) <;> simp
  · simp [TestB]; exact hQ _ _ ⟨by simp [inR, h], rfl⟩
  · exact hQ _ _ ⟨by simp [inR, h], rfl⟩
theorem call79 (x : Int) (s : St) : CallA Tryz.prog Tryz.tab 79 [.int .i64 x] s fun v s' => v = .bool (inR x 0 200000) ∧ s' = s := by
  refine callA_q fun Q hQ => ?_
  refine callA_of (fn := Tryz.f79) (n := 9) (rs := [.tmp 2]) (by kernel_rfl) rfl rfl rfl (by simp) ?_
  simp
  refine testB (fun h => ?_) (fun h => ?_) <;> simp
  · simp [TestB]; exact hQ _ _ ⟨by simp [inR, h], rfl⟩
  · exact hQ _ _ ⟨by simp [inR, h], rfl⟩
theorem call123 (x lo hi : Int) (s : St) : CallA Tryz.prog Tryz.tab 123 [.int .i64 x, .int .i64 lo, .int .i64 hi] s fun v s' => v = .bool (inR x lo hi) ∧ s' = s := by
  refine callA_q fun Q hQ => ?_
  refine callA_of (fn := Tryz.f123) (n := 15) (rs := [.tmp 6]) (by kernel_rfl) rfl rfl rfl (by simp) ?_
  simp
  refine testB (fun h => ?_) (fun h => ?_) <;> simp
  · simp [TestB]; exact hQ _ _ ⟨by simp [inR, h], rfl⟩
  · exact hQ _ _ ⟨by simp [inR, h], rfl⟩

@[simp ↓] theorem cb70 (x : Int) (s : St) (Q : Value → St → Prop) : @CallB Tryz.prog Tryz.tab 70 [.int .i64 x] s ⟨Q⟩ ↔ @TestB (inR x 1 32) ⟨fun b => Q (.bool b) s⟩ := callB_iff (call70 x s) Q
@[simp ↓] theorem cb74 (x : Int) (s : St) (Q : Value → St → Prop) : @CallB Tryz.prog Tryz.tab 74 [.int .i64 x] s ⟨Q⟩ ↔ @TestB (inR x 1 32) ⟨fun b => Q (.bool b) s⟩ := callB_iff (call74 x s) Q
@[simp ↓] theorem cb124 (x : Int) (s : St) (Q : Value → St → Prop) : @CallB Tryz.prog Tryz.tab 124 [.int .i64 x] s ⟨Q⟩ ↔ @TestB (inR x 1 1125899906842624) ⟨fun b => Q (.bool b) s⟩ := callB_iff (call124 x s) Q
@[simp ↓] theorem cb125 (x : Int) (s : St) (Q : Value → St → Prop) : @CallB Tryz.prog Tryz.tab 125 [.int .i64 x] s ⟨Q⟩ ↔ @TestB (inR x 0 200000) ⟨fun b => Q (.bool b) s⟩ := callB_iff (call125 x s) Q
@[simp ↓] theorem cb79 (x : Int) (s : St) (Q : Value → St → Prop) : @CallB Tryz.prog Tryz.tab 79 [.int .i64 x] s ⟨Q⟩ ↔ @TestB (inR x 0 200000) ⟨fun b => Q (.bool b) s⟩ := callB_iff (call79 x s) Q
@[simp ↓] theorem cb123 (x lo hi : Int) (s : St) (Q : Value → St → Prop) : @CallB Tryz.prog Tryz.tab 123 [.int .i64 x, .int .i64 lo, .int .i64 hi] s ⟨Q⟩ ↔ @TestB (inR x lo hi) ⟨fun b => Q (.bool b) s⟩ := callB_iff (call123 x lo hi s) Q

/-- What is wrong with a quote (whose member is one). -/
def qerr (q : Qo) : Int :=
  if inR q.id 1 1125899906842624 && inR q.side 1 2 && inR q.basket 1 64 && inR q.amount 1 1125899906842624 && inR q.rate (-1000000) 1000000 then
    if inR q.start 0 200000 && (decide (q.stop = 0) || inR q.stop 0 200000 && inR (q.stop - q.start) 1 3660) then 0 else 10
  else 1
def err (q : Qo) : Int := if inR q.member 1 32 then qerr q else 1

theorem wsub {a b : Int} (h1 : inR a 0 200000 = true) (h2 : inR b 0 200000 = true) : IntKind.i64.wrap (a - b) = a - b := by
  simp [inR] at h1 h2
  exact wrap_small (by omega) (by omega)

/-- lombardref10.Quote -/
theorem call71 (q : Qo) (s : St) : CallA Tryz.prog Tryz.tab 71 [q.val] s fun v s' => v = .int .i64 (qerr q) ∧ Quiet [] s s' := by
  refine callA_q fun Q hQ => ?_
  refine callA_of (fn := Tryz.f71) (n := 55) (rs := [.tmp 2]) (by kernel_rfl) rfl rfl rfl (by simp) ?_
  simp
  repeat' (refine testB (fun h => ?_) (fun h => ?_) <;> simp)
  all_goals (try rw [wsub (by assumption) (by assumption)] at h)
  all_goals refine hQ _ _ ⟨?_, by repeat (first | exact Quiet.refl _ _ | apply Quiet.rdl | apply Quiet.nw)⟩
  all_goals simp_all [qerr]

def qc1 (q : Qo) : Prop := (1 ≤ q.id ∧ q.id ≤ 1125899906842624) ∧ (1 ≤ q.side ∧ q.side ≤ 2) ∧ (1 ≤ q.basket ∧ q.basket ≤ 64) ∧ (1 ≤ q.amount ∧ q.amount ≤ 1125899906842624) ∧ -1000000 ≤ q.rate ∧ q.rate ≤ 1000000
def qc2 (q : Qo) : Prop := (0 ≤ q.start ∧ q.start ≤ 200000) ∧ (q.stop = 0 ∨ (0 ≤ q.stop ∧ q.stop ≤ 200000) ∧ 1 ≤ q.stop - q.start ∧ q.stop - q.start ≤ 3660)
theorem qb1 (q : Qo) : (inR q.id 1 1125899906842624 && inR q.side 1 2 && inR q.basket 1 64 && inR q.amount 1 1125899906842624 && inR q.rate (-1000000) 1000000) = true ↔ qc1 q := by
  simp [inR, qc1, and_assoc]
theorem qb2 (q : Qo) : (inR q.start 0 200000 && (decide (q.stop = 0) || inR q.stop 0 200000 && inR (q.stop - q.start) 1 3660)) = true ↔ qc2 q := by
  simp [inR, qc2, and_assoc]
theorem qerr_1 {q : Qo} (h : ¬ qc1 q) : qerr q = 1 := by
  unfold qerr
  rw [if_neg (fun x => h ((qb1 q).1 x))]
theorem qerr_10 {q : Qo} (h : qc1 q) (k : ¬ qc2 q) : qerr q = 10 := by
  unfold qerr
  rw [if_pos ((qb1 q).2 h), if_neg (fun x => k ((qb2 q).1 x))]
theorem qerr_0 {q : Qo} (h : qc1 q) (k : qc2 q) : qerr q = 0 := by
  unfold qerr
  rw [if_pos ((qb1 q).2 h), if_pos ((qb2 q).2 k)]

/-- msg.quote -/
theorem call83 (q : Qo) (s : St) : CallA Tryz.prog Tryz.tab 83 [q.val] s fun v s' => v = .int .i64 (qerr q) ∧ Quiet [] s s' := by
  refine callA_q fun Q hQ => ?_
  refine callA_of (fn := Tryz.f83) (n := 82) (rs := [.tmp 2]) (by kernel_rfl) rfl rfl rfl (by simp) ?_
  simp
  repeat' (refine testB (fun h => ?_) (fun h => ?_) <;> simp)
  all_goals refine hQ _ _ ⟨?_, by repeat (first | exact Quiet.refl _ _ | apply Quiet.rdl | apply Quiet.nw)⟩
  all_goals clear hQ
  all_goals simp [inR] at *
  all_goals (try rw [wrap_small (a := q.stop - q.start) (by omega) (by omega)] at *)
  all_goals first
    | (rw [qerr_1 (by unfold qc1; omega)]; done)
    | (rw [qerr_10 (by unfold qc1; omega) (by unfold qc2; omega)]; done)
    | (rw [qerr_0 (by unfold qc1; omega) (by unfold qc2; omega)]; done)

noncomputable def zv (t : TypeId) : Value := (zeroOf Tryz.prog t).getD undef
@[simp] theorem ta135 (v : Value) : aTypeAssert Tryz.prog (.iface 110 v) 135 true = some (.tuple (List.toArray [zv 135, .bool false])) := by kernel_rfl
@[simp] theorem ta139 (v : Value) : aTypeAssert Tryz.prog (.iface 110 v) 139 true = some (.tuple (List.toArray [zv 139, .bool false])) := by kernel_rfl
@[simp] theorem ta142 (v : Value) : aTypeAssert Tryz.prog (.iface 110 v) 142 true = some (.tuple (List.toArray [zv 142, .bool false])) := by kernel_rfl
@[simp] theorem ta145 (v : Value) : aTypeAssert Tryz.prog (.iface 110 v) 145 true = some (.tuple (List.toArray [zv 145, .bool false])) := by kernel_rfl
@[simp] theorem ta148 (v : Value) : aTypeAssert Tryz.prog (.iface 110 v) 148 true = some (.tuple (List.toArray [zv 148, .bool false])) := by kernel_rfl
@[simp] theorem ta151 (v : Value) : aTypeAssert Tryz.prog (.iface 110 v) 151 true = some (.tuple (List.toArray [zv 151, .bool false])) := by kernel_rfl
@[simp] theorem ta153 (v : Value) : aTypeAssert Tryz.prog (.iface 110 v) 153 true = some (.tuple (List.toArray [zv 153, .bool false])) := by kernel_rfl
@[simp] theorem ta110 (v : Value) : aTypeAssert Tryz.prog (.iface 110 v) 110 true = some (.tuple (List.toArray [v, .bool true])) := by kernel_rfl
@[simp] theorem z110 : zeroOf Tryz.prog 110 = some z29v := by kernel_rfl
@[simp] theorem st110 (i o : Nat) (q : Qo) : aStore Tryz.prog 110 (ptr i o) q.val = stCells i o q.enc := sta_of (by kernel_rfl) i o _ rfl
@[simp] theorem fa110_0 (i o : Nat) : aFieldAddr Tryz.prog 110 (ptr i o) 0 = some (ptr i o) := by kernel_rfl
@[simp] theorem bd110 (q : Qo) : aBuild Tryz.prog 110 [(0, q.val)] = some q.val := by kernel_rfl
@[simp] theorem mi110 (v : Value) (s : St) (Q : Value → St → Prop) : @MiB Tryz.prog 110 v s ⟨Q⟩ ↔ Q (.iface 110 v) s := mi_of (d := TypeDesc.struct (Tryz.prog.fieldsOf 110)) (by kernel_rfl) (by intro m h; cases h) v s Q
@[simp] theorem ext1 (v u : Value) : aExtract (.tuple #[v, u]) 1 = some u := rfl
@[simp] theorem ext0 (v u : Value) : aExtract (.tuple #[v, u]) 0 = some v := rfl

/-- msg.Check of an offer -/
theorem call47 (q : Qo) (s : St) : CallA Tryz.prog Tryz.tab 47 [.iface 110 q.val] s fun v s' => v = .int .i64 (err q) ∧ Quiet [] s s' := by
  refine callA_q fun Q hQ => ?_
  refine callA_of (fn := Tryz.f47) (n := 97) (rs := [.tmp 2]) (by kernel_rfl) rfl rfl rfl (by simp) ?_
  simp
  refine testB (fun h => ?_) (fun h => ?_) <;> simp
  · refine callB (call83 q _) ?_
    rintro v s2 ⟨rfl, q2⟩
    simp
    refine hQ _ _ ⟨by simp [err, h], Quiet.trans ?_ q2⟩
    repeat (first | exact Quiet.refl _ _ | apply Quiet.rdl | apply Quiet.nw | refine Quiet.wrl ?_ _ _ (.inr (by simp)))
  · refine hQ _ _ ⟨by simp [err, h], ?_⟩
    repeat (first | exact Quiet.refl _ _ | apply Quiet.rdl | apply Quiet.nw | refine Quiet.wrl ?_ _ _ (.inr (by simp)))

noncomputable def msgv (q : Qo) : Value := (aBuild Tryz.prog 106 [(0, .int .i64 8), (9, q.val)]).getD undef
@[simp] theorem bd106 (q : Qo) : aBuild Tryz.prog 106 [(0, .int .i64 8), (9, q.val)] = some (msgv q) := by kernel_rfl
@[simp] theorem plains_msgv (q : Qo) : plains (cellsOf (msgv q)) = true := by kernel_rfl
@[simp] theorem slm0 (q : Qo) : slab (cellsOf (msgv q)) 0 1 = some [.int .i64 8] := by kernel_rfl
@[simp] theorem slm23 (q : Qo) : slab (cellsOf (msgv q)) 23 1 = some [.int .i64 q.member] := by kernel_rfl
@[simp] theorem slm22 (q : Qo) : slab (cellsOf (msgv q)) 22 8 = some q.enc := by kernel_rfl
@[simp] theorem fa106_0 (i o : Nat) : aFieldAddr Tryz.prog 106 (ptr i o) 0 = some (ptr i o) := by kernel_rfl
@[simp] theorem fa106_9 (i o : Nat) : aFieldAddr Tryz.prog 106 (ptr i o) 9 = some (ptr i (o + 22)) := by kernel_rfl

/-- lombardref10.Check of an offer -/
theorem call45 (q : Qo) (s : St) : CallA Tryz.prog Tryz.tab 45 [msgv q] s fun v s' => v = .int .i64 (err q) ∧ Quiet [] s s' := by
  refine callA_q fun Q hQ => ?_
  refine callA_of (fn := Tryz.f45) (n := 71) (rs := [.tmp 2]) (by kernel_rfl) rfl rfl rfl (by simp) ?_
  simp
  refine testB (fun h => ?_) (fun h => ?_) <;> simp
  · refine callB (call71 q _) ?_
    rintro v s2 ⟨rfl, q2⟩
    simp
    refine hQ _ _ ⟨by simp [err, h], Quiet.trans ?_ q2⟩
    repeat (first | exact Quiet.refl _ _ | apply Quiet.rdl | apply Quiet.nw | refine Quiet.wrl ?_ _ _ (.inr (by simp)))
  · refine hQ _ _ ⟨by simp [err, h], ?_⟩
    repeat (first | exact Quiet.refl _ _ | apply Quiet.rdl | apply Quiet.nw | refine Quiet.wrl ?_ _ _ (.inr (by simp)))
end Go.Proofs.Qt
