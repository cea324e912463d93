/- Quotes: the statement's function. -/
import Derived.Test.YtefogennhgacjaaGreatQtM
namespace Go.Proofs.Qt
open Go Go.Ax Go.Proofs
set_option maxRecDepth 100000
set_option linter.unusedSimpArgs false
set_option linter.unusedVariables false

def flatA : List Act → List Value
  | [] => []
  | q :: l => q.enc ++ flatA l
@[simp] theorem encA_length (q : Act) : q.enc.length = 11 := rfl
theorem flatA_length : ∀ (l : List Act), (flatA l).length = l.length * 11
  | [] => rfl
  | q :: l => by simp [flatA, flatA_length l]; omega
theorem flatA_append : ∀ (a b : List Act), flatA (a ++ b) = flatA a ++ flatA b
  | [], b => rfl
  | q :: a, b => by simp [flatA, flatA_append a b]
theorem flatA_at (l : List Act) (j : Nat) (h : j < l.length) : flatA l = flatA (l.take j) ++ (l[j].enc ++ flatA (l.drop (j + 1))) := by
  conv => lhs; rw [← List.take_append_drop j l]
  rw [flatA_append, List.drop_eq_getElem_cons h]
  rfl
@[simp] theorem slab11 {l : List Act} {j : Nat} (h : j < l.length) (r : List Value) : slab (flatA l ++ r) (j * 11) 11 = some l[j].enc := by
  refine slab_mid (a := flatA (l.take j)) (b := flatA (l.drop (j + 1)) ++ r) ?_ ?_ rfl
  · conv => lhs; rw [flatA_at l j h]
    simp
  · rw [flatA_length]; simp; omega
theorem act_eq (q : Act) : Value.agg (List.toArray q.enc) = q.val := rfl
attribute [simp] act_eq
@[simp] theorem ld31 (i o : Nat) : aLoad Tryz.prog 31 (ptr i o) = (ldCells i o 11).bind fun l => .ret (.agg (List.toArray l)) := lda_of (by kernel_rfl) (by kernel_rfl) i o
@[simp] theorem z25 : zeroOf Tryz.prog 25 = some (.slice none 0 0) := by kernel_rfl
@[simp] theorem cellsOf_slice (a : Option Addr) (m c : Nat) : cellsOf (.slice a m c) = [.slice a m c] := rfl

@[simp] theorem bs36 (k : Nat) : aBuildSlice Tryz.prog 36 2 [(0, .pointer none), (1, ptr k 0)] = .nw (.cells [.pointer none, ptr k 0]) fun j => .ret (.slice (some ⟨j, 0, none⟩) 2 2) := by kernel_rfl
@[simp] theorem len36 (a : Addr) (len cap : Nat) : aBuiltin Tryz.prog .len [36] [.slice (some a) len cap] = .ret (.int .i64 len) := len_of (e := 23) (by kernel_rfl) _ _ _ (.inr (by simp))
@[simp] theorem ia36_0 (i : Nat) : aIndexAddr Tryz.prog 36 (.slice (some ⟨i, 0, none⟩) 2 2) (.int .i64 0) = some (ptr i 0) := by kernel_rfl
@[simp] theorem ia36_1 (i : Nat) : aIndexAddr Tryz.prog 36 (.slice (some ⟨i, 0, none⟩) 2 2) (.int .i64 1) = some (ptr i 1) := by kernel_rfl
@[simp] theorem ld23 (i o : Nat) : aLoad Tryz.prog 23 (ptr i o) = (ldCells i o 1).bind headR := ld1_of (by kernel_rfl) i o
@[simp] theorem len25z : aBuiltin Tryz.prog .len [25] [.slice none 0 0] = .ret (.int .i64 0) := len_of (e := 29) t25.1 _ _ _ (.inl rfl)
@[simp] theorem len40z : aBuiltin Tryz.prog .len [40] [.slice none 0 0] = .ret (.int .i64 0) := len_of (e := 46) (by kernel_rfl) _ _ _ (.inl rfl)
@[simp] theorem len42z : aBuiltin Tryz.prog .len [42] [.slice none 0 0] = .ret (.int .i64 0) := len_of (e := 3) t42.1 _ _ _ (.inl rfl)

/-- A slice of acts that came in. -/
def Sa (s : St) (v : Value) (l : List Act) (i : Nat) : Prop :=
  (v = .slice none 0 0 ∧ l = []) ∨ ∃ cap, v = .slice (some ⟨i, 0, none⟩) l.length cap ∧ (l = [] ∨ i < s.n ∧ ∃ r, s.h.get i = some (.ro (flatA l ++ r)))
theorem Sa.len {s : St} {v : Value} {l : List Act} {i : Nat} (h : Sa s v l i) : aBuiltin Tryz.prog .len [22] [v] = .ret (.int .i64 l.length) := by
  rcases h with ⟨rfl, rfl⟩ | ⟨cap, rfl, _⟩
  · exact len_of (e := 31) (by kernel_rfl) _ _ _ (.inl rfl)
  · exact len_of (e := 31) (by kernel_rfl) _ _ _ (.inr (by simp))
theorem Sa.ia {s : St} {v : Value} {l : List Act} {i : Nat} (h : Sa s v l i) (j : Nat) (hj : j < l.length) : aIndexAddr Tryz.prog 22 v (.int .i64 (j : Int)) = some (ptr i (j * 11)) := by
  rcases h with ⟨rfl, rfl⟩ | ⟨cap, rfl, _⟩
  · simp at hj
  · rw [ia_of (e := 31) (sz := 11) (by kernel_rfl) (by kernel_rfl) i 0 none l.length cap .i64 j hj, Nat.zero_add]
theorem Sa.row {s : St} {v : Value} {l : List Act} {i : Nat} (h : Sa s v l i) (hj : 0 < l.length) : i < s.n ∧ ∃ r, s.h.get i = some (.ro (flatA l ++ r)) := by
  rcases h with ⟨rfl, rfl⟩ | ⟨cap, rfl, rfl | h⟩
  · simp at hj
  · simp at hj
  · exact h
theorem Sa.move {s s' : St} {v : Value} {l : List Act} {i : Nat} {W : List Nat} (h : Sa s v l i) (q : Quiet W s s') (hi : i ∉ W) : Sa s' v l i := by
  rcases h with h | ⟨cap, hv, rfl | ⟨h1, r, h2⟩⟩
  · exact .inl h
  · exact .inr ⟨cap, hv, .inl rfl⟩
  · exact .inr ⟨cap, hv, .inr ⟨Nat.lt_of_lt_of_le h1 q.n, r, (q.keep i h1 hi).trans h2⟩⟩

theorem loopB_post {P : Program} {tab : Tab} {b : Code} {f : AF} {s : St} {Q Q0 : X → AF → St → Prop} (h : @LoopB P tab f s ⟨b⟩ ⟨Q0⟩) (k : ∀ x f s, Q0 x f s → Q x f s) : @LoopB P tab f s ⟨b⟩ ⟨Q⟩ := Runs.mono h k

/-- Two steps, of which the second may write the board's own row. -/
theorem Quiet.then2 {a b c : St} {d jb ib il : Nat} (h : Quiet [d, ib, il] a b) (k : Quiet [jb, ib, il] b c) (hj : jb = d ∨ a.n ≤ jb) : Quiet [d, ib, il] a c :=
  ((h.sub (V := [jb, d, ib, il]) fun i hi => .inl (by simp at hi; rcases hi with x | x | x <;> simp [x])).trans (k.sub fun i hi => .inl (by simp at hi; rcases hi with x | x | x <;> simp [x]))).sub fun i hi => by
    simp at hi
    rcases hi with x | x | x | x
    · subst x
      rcases hj with x | x
      · left; simp [x]
      · exact .inr x
    · left; simp [x]
    · left; simp [x]
    · left; simp [x]

/-- The loops' heads. -/
def L1 (va vm : Value) (ib il d : Nat) (sL : St) (f : AF) (s2 : St) : Prop :=
  f.n = 116 ∧ f.get 0 = va ∧ f.get 1 = vm ∧ f.get 5 = ptr ib 0 ∧ f.get 6 = ptr il 0 ∧ ∃ vb rl l jb jr, Inv s2 ib il vb rl l jb jr ∧ (jb = d ∨ sL.n ≤ jb) ∧ Quiet [d, ib, il] sL s2
def L1k (va vm : Value) (n ib il d : Nat) (sL : St) (k : Nat) (f : AF) (s2 : St) : Prop := ∃ j : Nat, k = n - j ∧ f.get 7 = .int .i64 (j : Int) ∧ j ≤ 40 ∧ L1 va vm ib il d sL f s2

def L2 (vm : Value) (ib il ic il2 d : Nat) (sM : St) (f : AF) (s2 : St) : Prop :=
  f.n = 116 ∧ f.get 1 = vm ∧ f.get 5 = ptr ib 0 ∧ f.get 6 = ptr il 0 ∧ f.get 8 = ptr ic 0 ∧ f.get 9 = ptr il2 0 ∧ ∃ vb rl l jb jr, Inv s2 ib il2 vb rl l jb jr ∧ (jb = d ∨ sM.n ≤ jb) ∧ Quiet [d, ib, il2] sM s2
def L2k (vm : Value) (n ib il ic il2 d : Nat) (sM : St) (k : Nat) (f : AF) (s2 : St) : Prop := ∃ j : Nat, k = n - j ∧ f.get 10 = .int .i64 (j : Int) ∧ j ≤ 20 ∧ L2 vm ib il ic il2 d sM f s2

theorem call3 {s : St} {va vm : Value} {acts more : List Act} {i1 i2 d : Nat} (ha : Sa s va acts i1) (hm : Sa s vm more i2) (hd : d < s.n) (h1 : i1 < s.n) (h2 : i2 < s.n) (hd1 : d ≠ i1) (hd2 : d ≠ i2) :
    CallA Tryz.prog Tryz.tab 3 [va, vm] s fun v s' => v = .bool true := by
  refine callA_of (fn := Tryz.f3) (n := 116) (rs := [.tmp 4]) (by kernel_rfl) rfl rfl rfl (by simp) ?_
  simp
  refine callB (call5 s) ?_
  rintro v s1 ⟨rfl, rfl⟩
  simp
  obtain ⟨sL, hsL⟩ : ∃ sL, sL = (s.nw (.cells [.slice none 0 0, .bool true])).nw (.cells [.slice none 0 0]) := ⟨_, rfl⟩
  rw [← hsL]
  have qL : Quiet [] s sL := by rw [hsL]; exact ((Quiet.refl _ _).nw _).nw _
  have nL : sL.n = s.n + 2 := by rw [hsL]; rfl
  have IL : Inv sL s.n (s.n + 1) nilS nilS [] d d := by
    refine ⟨by rw [hsL]; simp, by rw [hsL]; simp, ⟨by omega, .inl ⟨rfl, rfl⟩⟩, Sl.nil _ _ _, by omega, by omega, by omega, by omega, by omega, by omega, fun h => absurd rfl h, by simp, by simp⟩
  have haL := ha.move qL (by simp)
  have hmL := hm.move qL (by simp)
  refine loopB_post (Q0 := fun x f s2 => x = .exit 0 ∧ L1 va vm s.n (s.n + 1) d sL f s2) (loopB (L1k va vm (acts.length) s.n (s.n + 1) d sL) ?_ (k := acts.length) ?_) ?_
  · rintro k f s2 ⟨j, hk, h7, hj40, hn, f0, f1, f5, f6, vb, rl, l, jb, jr, I, cj, hq⟩
    have ha2 := haL.move hq (by simp; omega)
    simp [hn, f0, f1, f5, f6, h7, ha2.len]
    refine testB (fun t => ?_) (fun t => ?_)
    · have hj : j < acts.length := by simpa using t
      simp [hn, f0, f1, f5, f6, h7]
      refine testB (fun t2 => ?_) (fun t2 => ?_)
      · simp at t2
        obtain ⟨hi, r, hr⟩ := ha2.row (by omega)
        simp [hn, f0, f1, f5, f6, h7, ha2.ia j hj, hr, hj]
        have I2 : Inv (s2.rdl i1) s.n (s.n + 1) vb rl l jb jr := ⟨I.b, I.r, I.hb, I.hr, I.jr_lt, I.ib_lt, I.il_lt, I.d1, I.d2, I.d3, I.d4, I.good, I.len⟩
        refine callB (call6 I2 acts[j]) ?_
        rintro v s3 ⟨rfl, vb', rl', l', jb', jr', I3, c1, c2, q3⟩
        have q4 : Quiet [jb, s.n, s.n + 1] s2 s3 := Quiet.trans ((Quiet.refl _ _).rdl _) q3
        have m4 := hq.n
        simp [hn, f0, f1, f5, f6, h7]
        refine ⟨acts.length - (j + 1), by omega, j + 1, rfl, by simp [wrap_succ (show j < 1000000 by omega)], by omega, by simp [hn], by simp [f0], by simp [f1], by simp [f5], by simp [f6], vb', rl', l', jb', jr', I3, ?_, Quiet.then2 hq q4 cj⟩
        rcases c1 with rfl | c1
        · exact cj
        · right; simp at c1; omega
      · simp [hn, f0, f1, f5, f6, h7]
        exact ⟨by simp [hn], by simp [f0], by simp [f1], by simp [f5], by simp [f6], vb, rl, l, jb, jr, I, cj, hq⟩
    · simp [hn, f0, f1, f5, f6, h7]
      exact ⟨by simp [hn], by simp [f0], by simp [f1], by simp [f5], by simp [f6], vb, rl, l, jb, jr, I, cj, hq⟩
  · exact ⟨0, by simp, by simp, by omega, by simp, by simp, by simp, by simp, by simp, nilS, nilS, [], d, d, IL, .inl rfl, .refl _ _⟩
  rintro _ f s2 ⟨rfl, hn, f0, f1, f5, f6, vb, rl, l, jb, jr, I, cj, hq⟩
  simp [hn, f0, f1, f5, f6]
  refine callB (call7 I.b I.ib_lt I.hb (by have := I.len; omega)) ?_
  rintro v s3 ⟨ic, vc, jc, rfl, hic, hic2, hcr, hcS, hjc, q3⟩
  have hr3 : s3.h.get (s.n + 1) = some (.cells [rl]) := (q3.keep _ I.il_lt (by simp)).trans I.r
  have m3 := q3.n
  have hib := I.ib_lt
  have hil := I.il_lt
  have hjb := I.hb.1
  have hjr := I.jr_lt
  have e1 : s.n + 1 ≠ s3.n := by omega
  have hR3 : Sq s3 rl l jr := Sl.move I.hr q3 (by simp)
  simp [hn, f0, f1, f5, f6, hr3, st25 _ _ _ (Sl.plain hR3), Sl.plain hR3]
  obtain ⟨sM, hsM⟩ : ∃ sM, sM = ((((s3.rdl (s.n + 1)).nw (.cells [.slice none 0 0])).rdl s3.n).wrl s3.n (.cells [rl])) := ⟨_, rfl⟩
  rw [← hsM]
  have qM : Quiet [] s3 sM := by rw [hsM]; exact ((((Quiet.refl _ _).rdl _).nw _).rdl _).wrl _ _ (.inr (Nat.le_refl _))
  have nM : sM.n = s3.n + 1 := by rw [hsM]; rfl
  have q2M : Quiet [] s2 sM := q3.trans qM
  have IM : Inv sM s.n s3.n vb rl l jb jr := by
    refine ⟨(q2M.keep _ hib (by simp)).trans I.b, by rw [hsM]; simp, I.hb.move q2M (by simp), Sl.move I.hr q2M (by simp), by omega, by omega, by omega, I.d1, by omega, by omega, fun h => ⟨(I.d4 h).1, (I.d4 h).2.1, by omega⟩, I.good, I.len⟩
  have qsM : Quiet [d, s.n, s.n + 1] sL sM := hq.trans q2M.nil
  have hmM := hmL.move qsM (by simp; omega)
  have hrM : sM.h.get (s.n + 1) = some (.cells [rl]) := (q2M.keep _ hil (by simp)).trans I.r
  have hRM : Sq sM rl l jr := Sl.move I.hr q2M (by simp)
  have hcM : sM.h.get ic = some (.cells [vc, .bool true]) := (qM.keep _ hic2 (by simp)).trans hcr
  have hCM : Sq sM vc l jc := Sl.move hcS qM (by simp)
  refine loopB_post (Q0 := fun x f s2 => x = .exit 2 ∧ L2 vm s.n (s.n + 1) ic s3.n jb sM f s2) (loopB (L2k vm (more.length) s.n (s.n + 1) ic s3.n jb sM) ?_ (k := more.length) ?_) ?_
  · clear f hn f0 f1 f5 f6
    rintro k f s4 ⟨j, hk, h10, hj20, hn, f1, f5, f6, f8, f9, vb4, rl4, l4, jb4, jr4, I4, cj4, hq4⟩
    have hm4 := hmM.move hq4 (by simp; rcases cj with rfl | cj <;> omega)
    simp [hn, f1, f5, f6, f8, f9, h10, hm4.len]
    refine testB (fun t => ?_) (fun t => ?_)
    · have hj : j < more.length := by simpa using t
      simp [hn, f1, f5, f6, f8, f9, h10]
      refine testB (fun t2 => ?_) (fun t2 => ?_)
      · simp at t2
        obtain ⟨hi, r, hr⟩ := hm4.row (by omega)
        simp [hn, f1, f5, f6, f8, f9, h10, hm4.ia j hj, hr, hj]
        have I5 : Inv (s4.rdl i2) s.n s3.n vb4 rl4 l4 jb4 jr4 := ⟨I4.b, I4.r, I4.hb, I4.hr, I4.jr_lt, I4.ib_lt, I4.il_lt, I4.d1, I4.d2, I4.d3, I4.d4, I4.good, I4.len⟩
        refine callB (call6 I5 more[j]) ?_
        rintro v s5 ⟨rfl, vb', rl', l', jb', jr', I6, c1, c2, q5⟩
        have q6 : Quiet [jb4, s.n, s3.n] s4 s5 := Quiet.trans ((Quiet.refl _ _).rdl _) q5
        have m6 := hq4.n
        simp [hn, f1, f5, f6, f8, f9, h10]
        refine ⟨more.length - (j + 1), by omega, j + 1, rfl, by simp [wrap_succ (show j < 1000000 by omega)], by omega, by simp [hn], by simp [f1], by simp [f5], by simp [f6], by simp [f8], by simp [f9], vb', rl', l', jb', jr', I6, ?_, Quiet.then2 hq4 q6 cj4⟩
        rcases c1 with rfl | c1
        · exact cj4
        · right; simp at c1; omega
      · simp [hn, f1, f5, f6, f8, f9, h10]
        exact ⟨by simp [hn], by simp [f1], by simp [f5], by simp [f6], by simp [f8], by simp [f9], vb4, rl4, l4, jb4, jr4, I4, cj4, hq4⟩
    · simp [hn, f1, f5, f6, f8, f9, h10]
      exact ⟨by simp [hn], by simp [f1], by simp [f5], by simp [f6], by simp [f8], by simp [f9], vb4, rl4, l4, jb4, jr4, I4, cj4, hq4⟩
  · exact ⟨0, by simp, by simp, by omega, by simp [hn], by simp [f1], by simp [f5], by simp [f6], by simp, by simp, vb, rl, l, jb, jr, IM, .inl rfl, .refl _ _⟩
  clear f hn f0 f1 f5 f6
  rintro _ f s4 ⟨rfl, hn, f1, f5, f6, f8, f9, vb4, rl4, l4, jb4, jr4, I4, cj4, hq4⟩
  have m4 := hq4.n
  have hr4 : s4.h.get (s.n + 1) = some (.cells [rl]) := (hq4.keep _ (by omega) (by have := I.d2; simp; omega)).trans hrM
  have hR4 : Sq s4 rl l jr := Sl.move' hRM hq4 fun h => by have := I.d4 h; simp; omega
  have hc4 : s4.h.get ic = some (.cells [vc, .bool true]) := (hq4.keep _ (by omega) (by simp; omega)).trans hcM
  have hC4 : Sq s4 vc l jc := Sl.move' hCM hq4 fun h => by have := Sl.lt hcS h; simp; omega
  simp [hn, f1, f5, f6, f8, f9]
  refine drwB' (prs := [[], [0], [], [1, 0, 2, 1, 0], [3, 1, 0, 2, 1, 0]]) (by kernel_rfl) ?_
  simp [hn, f1, f5, f6, f8, f9]
  have hlen := I.len
  refine callB (call9 (s := ⟨s4.h, s4.n, [], []⟩) hc4 (Sl.eqv (s' := ⟨s4.h, s4.n, [], []⟩) hC4 rfl rfl) (by omega)) ?_
  rintro v s5 ⟨ja, hA5, q5⟩
  have w5 := q5.wl
  simp at w5
  have hr5 : s5.h.get (s.n + 1) = some (.cells [rl]) := (q5.keep _ (by simp; omega) (by simp)).trans hr4
  have hR5 : Sq s5 rl l jr := Sl.move (Sl.eqv (s' := ⟨s4.h, s4.n, [], []⟩) hR4 rfl rfl) q5 (by simp)
  simp [hn, f1, f5, f6, f8, f9, hr5]
  refine mayB_step ⟨fun x hx => ?_, by simp, by simp⟩ ?_
  · have := w5 x hx
    simp; omega
  simp [hn, f1, f5, f6, f8, f9]
  refine callB (call8 (s := ⟨s5.h, s5.n, [], []⟩) (Sl.eqv (s' := ⟨s5.h, s5.n, [], []⟩) hA5 rfl rfl) (Sl.eqv (s' := ⟨s5.h, s5.n, [], []⟩) hR5 rfl rfl) (by omega)) ?_
  rintro v s6 ⟨rfl, q6⟩
  have n5 := q5.n
  have n6 := q6.n
  simp at n5 n6
  simp [hn, f1, f5, f6, f8, f9]
  obtain ⟨Z, hZ⟩ : ∃ Z : St, Z = ⟨s6.h, s6.n, logR [⟨4, [3, 1, 0, 2, 1, 0], [], []⟩, ⟨3, [1, 0, 2, 1, 0], s6.rl, s6.wl⟩, ⟨2, [], [s.n + 1], []⟩, ⟨1, [0], s5.rl, s5.wl⟩, ⟨0, [], [], []⟩] s4.rl, logW [⟨4, [3, 1, 0, 2, 1, 0], [], []⟩, ⟨3, [1, 0, 2, 1, 0], s6.rl, s6.wl⟩, ⟨2, [], [s.n + 1], []⟩, ⟨1, [0], s5.rl, s5.wl⟩, ⟨0, [], [], []⟩] s4.wl⟩ := ⟨_, rfl⟩
  rw [← hZ]
  have nZ : Z.n = s6.n := by rw [hZ]
  obtain ⟨T, hT⟩ : ∃ T, T = (Z.nw (.cells [.slice none 0 0, .bool false])).nw (.cells [.pointer none, ptr s6.n 0]) := ⟨_, rfl⟩
  rw [← hT]
  have nT : T.n = s6.n + 2 := by rw [hT]; simp [nZ]
  have hTx : T.h.get s6.n = some (.cells [.slice none 0 0, .bool false]) := by rw [hT]; simp [nZ]
  have hTk : T.h.get (s6.n + 1) = some (.cells [.pointer none, ptr s6.n 0]) := by rw [hT]; simp [nZ]
  refine loopB_un ?_
  simp [hn, f1, f5, f6, f8, f9, hTk]
  refine callB (call10n q0 _) ?_
  rintro v t1 ⟨rfl, p1⟩
  simp [hn, f1, f5, f6, f8, f9]
  refine callB (call11n 1 1 _) ?_
  rintro v t2 ⟨rfl, p2⟩
  simp [hn, f1, f5, f6, f8, f9]
  refine callB (call12n 1 1 _) ?_
  rintro v t3 ⟨rfl, p3⟩
  simp [hn, f1, f5, f6, f8, f9]
  refine callB (call9n _) ?_
  rintro v t4 ⟨rfl, p4⟩
  simp [hn, f1, f5, f6, f8, f9]
  refine callB (call13n _) ?_
  rintro v t5 ⟨rfl, p5⟩
  simp [hn, f1, f5, f6, f8, f9]
  refine callB (call14n 1 _) ?_
  rintro v t6 ⟨rfl, p6⟩
  simp [hn, f1, f5, f6, f8, f9]
  refine callB (call15n 9 _) ?_
  rintro v t7 ⟨rfl, p7⟩
  simp [hn, f1, f5, f6, f8, f9]
  refine callB (call16n 0 0 0 1 _) ?_
  rintro v t8 ⟨rfl, p8⟩
  simp [hn, f1, f5, f6, f8, f9]
  refine callB (call7n _) ?_
  rintro v t9 ⟨rfl, p9⟩
  simp [hn, f1, f5, f6, f8, f9]
  have pT : Quiet [] T t9 := ((Quiet.refl _ _).rdl _).trans (p1.trans (p2.trans (p3.trans (p4.trans (p5.trans (p6.trans (p7.trans (p8.trans p9))))))))
  have hk9 : t9.h.get (s6.n + 1) = some (.cells [.pointer none, ptr s6.n 0]) := (pT.keep _ (by omega) (by simp)).trans hTk
  have n9 := pT.n
  have u9 : Un t9 s6.n d nilS := ⟨(pT.keep _ (by omega) (by simp)).trans hTx, by omega, ⟨by omega, .inl ⟨rfl, rfl⟩⟩, by omega⟩
  refine loopB_un ?_
  simp [hn, f1, f5, f6, f8, f9, hk9, show IntKind.i64.wrap 1 = 1 from by decide]
  have u10 : Un (t9.rdl (s6.n + 1)) s6.n d nilS := u9.move ((Quiet.refl [] _).rdl _) (by simp) (by simp)
  refine callB (call10u u10 q0) ?_
  rintro v t11 ⟨rfl, p11⟩
  have u11 := u10.move p11 (by simp) (by simp)
  simp [hn, f1, f5, f6, f8, f9]
  refine callB (call11u u11 1 1) ?_
  rintro v t12 ⟨rfl, p12⟩
  have u12 := u11.move p12 (by simp) (by simp)
  simp [hn, f1, f5, f6, f8, f9]
  refine callB (call12u u12 1 1) ?_
  rintro v t13 ⟨rfl, p13⟩
  have u13 := u12.move p13 (by simp) (by simp)
  simp [hn, f1, f5, f6, f8, f9]
  refine callB (call9 u13.b u13.hb.sq (by simp)) ?_
  rintro v t14 ⟨j14, h14, p14⟩
  have u14 := u13.move p14 (by simp) (by simp)
  simp [hn, f1, f5, f6, f8, f9, h14.len]
  refine callB (call13u u14) ?_
  rintro v t15 ⟨rfl, p15⟩
  have u15 := u14.move p15 (by simp) (by simp)
  simp [hn, f1, f5, f6, f8, f9]
  refine callB (call14 u15.b u15.lt u15.hb u15.ne (by simp) 1) ?_
  rintro v t16 ⟨k16, vb16, h16, -, hb16, hB16, p16⟩
  have u16 : Un t16 s6.n d vb16 := ⟨hb16, Nat.lt_of_lt_of_le u15.lt p16.n, by simpa using hB16, u15.ne⟩
  simp [hn, f1, f5, f6, f8, f9, t42len h16]
  refine callB (call15 u16.b u16.lt u16.hb u16.ne (by simp) 9) ?_
  rintro v t17 ⟨k17, vb17, h17, -, hb17, hB17, p17⟩
  have u17 : Un t17 s6.n d vb17 := ⟨hb17, Nat.lt_of_lt_of_le u16.lt p17.n, by simpa using hB17, u16.ne⟩
  simp [hn, f1, f5, f6, f8, f9, t42len h17]
  refine callB (call16u u17 0 0 0 1) ?_
  rintro v t18 ⟨rfl, p18⟩
  have u18 := u17.move p18 (by simp) (by simp)
  simp [hn, f1, f5, f6, f8, f9]
  refine callB (call7u u18) ?_
  rintro v t19 ⟨rfl, p19⟩
  simp [hn, f1, f5, f6, f8, f9, show IntKind.i64.wrap 2 = 2 from by decide]
  refine loopB_un ?_
  simp [hn, f1, f5, f6, f8, f9, show IntKind.i64.wrap 2 = 2 from by decide]
end Go.Proofs.Qt
