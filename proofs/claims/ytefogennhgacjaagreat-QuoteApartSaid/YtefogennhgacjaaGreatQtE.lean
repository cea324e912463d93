/- Quotes: what a board drops. -/
import Derived.Test.YtefogennhgacjaaGreatQtD
namespace Go.Proofs.Qt
open Go Go.Ax Go.Proofs
set_option maxRecDepth 100000
set_option linter.unusedSimpArgs false
set_option linter.unusedVariables false

theorem call54n {s : St} {g : FuncId} {cs : List Value} {p : Qo → Bool}
    (hf : ∀ s' q, Quiet [] s s' → CallA Tryz.prog Tryz.tab g (q.val :: cs) s' fun v s'' => v = .bool (p q) ∧ Quiet [] s' s'') :
    CallA Tryz.prog Tryz.tab 54 [.slice none 0 0, .func (.func g) (List.toArray []) (List.toArray cs)] s fun v s' => v = .slice none 0 0 ∧ Quiet [] s s' := by
  refine callA_of (fn := Tryz.f54) (n := 42) (rs := [.tmp 4]) (by kernel_rfl) rfl rfl rfl (by simp) ?_
  simp
  refine callB (call49 (l := []) (i := 0) (Sl.nil _ _ _) (by simp) (p := p) hf) ?_
  rintro v s1 ⟨hv, q1⟩
  rcases hv with ⟨j, rfl, hj, hpj, hall⟩ | ⟨rfl, hall⟩
  · simp at hj
  · simp
    exact q1

/-- A board's list. -/
def Bq (s : St) (v : Value) (l : List Qo) (i : Nat) : Prop :=
  i < s.n ∧ ((v = .slice none 0 0 ∧ l = []) ∨ (v = openSl i 0 8 l.length ∧ ∃ r, s.h.get i = some (.cells (flat l ++ r))))
theorem Bq.sq {s : St} {v : Value} {l : List Qo} {i : Nat} (h : Bq s v l i) : Sq s v l i := by
  rcases h with ⟨hi, ⟨rfl, rfl⟩ | ⟨rfl, r, hr⟩⟩
  · exact Sl.nil _ _ _
  · exact open_sq hr hi
theorem Bq.move {s s' : St} {v : Value} {l : List Qo} {i : Nat} {W : List Nat} (h : Bq s v l i) (q : Quiet W s s') (hi : i ∉ W) : Bq s' v l i := by
  refine ⟨Nat.lt_of_lt_of_le h.1 q.n, ?_⟩
  rw [q.keep i h.1 hi]
  exact h.2

/-- A slice of integers. -/
def Si (s : St) (v : Value) (l : List Int) (i : Nat) : Prop := Sl s v 1 l.length (l.map fun n => .int .i64 n) i
@[simp] theorem plains_map (l : List Int) : plains (l.map fun n => .int .i64 n) = true := by induction l <;> simp_all
@[simp] theorem fillz : aBuildSlice Tryz.prog 42 1 [] = aBuildSlice Tryz.prog 42 1 [] := rfl

def I37 (s : St) (l : List Qo) (p : Qo → Bool) (ib : Nat) (vb F : Value) (k : Nat) (f : AF) (s2 : St) : Prop :=
  f.n = 38 ∧ f.get 0 = ptr ib 0 ∧ f.get 1 = F ∧ f.get 13 = vb ∧ f.get 14 = .int .i64 (l.length : Int) ∧
    ∃ (j : Nat) (v5 : Value) (i5 : Nat), k = l.length - j ∧ j ≤ l.length ∧ f.get 15 = .int .i64 (j : Int) ∧ f.get 5 = v5 ∧ Si s2 v5 (((l.take j).filter p).map (·.id)) i5 ∧ s.n ≤ i5 ∧ Quiet [] s s2

/-- (*Board).drop -/
theorem call37 {s : St} {fl : Value} {ib i : Nat} {vb : Value} {l : List Qo} (hb : s.h.get ib = some (.cells [vb, fl])) (hib : ib < s.n) (h : Bq s vb l i) (hne : i ≠ ib) (hsm : l.length ≤ 1000) {g : FuncId} {cs : List Value} {p : Qo → Bool}
    (hf : ∀ s' q, Quiet [i] s s' → CallA Tryz.prog Tryz.tab g (q.val :: cs) s' fun v s'' => v = .bool (p q) ∧ Quiet [] s' s'') :
    CallA Tryz.prog Tryz.tab 37 [ptr ib 0, .func (.func g) (List.toArray []) (List.toArray cs)] s fun v s' =>
      ∃ k vb', Si s' v ((l.filter p).map (·.id)) k ∧ s.n ≤ k ∧ s'.h.get ib = some (.cells [vb', fl]) ∧ Bq s' vb' (l.filter fun q => !p q) i ∧ Quiet [i, ib] s s' := by
  have hi0 := h.1
  refine callA_q fun Q hQ => ?_
  refine callA_of (fn := Tryz.f37) (n := 38) (rs := [.tmp 4]) (by kernel_rfl) rfl rfl rfl (by simp) ?_
  simp
  refine bindO_of (a := .bool false) (by kernel_rfl) ?_
  simp [hb, h.sq.len]
  refine loopB (I37 s l p ib vb (.func (.func g) (List.toArray []) (List.toArray cs))) ?_ (k := l.length) ?_
  · rintro k f s2 ⟨hn, h0, h1, h13, h14, j, v5, i5, hk, hj, h15, h5, hs5, hi5, hq⟩
    have h2 := h.move hq (by simp)
    simp [hn, h0, h1, h13, h14, h15]
    refine testB (fun t => ?_) (fun t => ?_)
    · have hj' : j < l.length := by simpa using t
      obtain ⟨hi2, r, hr⟩ := h2.sq.row hj'
      simp [hn, h0, h1, h13, h14, h15, h2.sq.ia j hj', hr, hj', z29']
      have q3 : Quiet [] s2 (((((s2.rdl i).nw (.cells (cellsOf z29v))).rdl s2.n).wrl s2.n (.cells l[j].enc)).rdl s2.n) := ((((((Quiet.refl _ _).rdl _).nw _).rdl _).wrl _ _ (.inr (Nat.le_refl _)))).rdl _
      refine callB (hf _ _ (hq.trans q3).nil) ?_
      rintro v s4 ⟨rfl, q4⟩
      have q5 : Quiet [] s s4 := (hq.trans q3).trans q4
      have hbox : s4.h.get s2.n = some (.cells l[j].enc) := by
        rw [q4.keep s2.n (by simp) (by simp)]; simp
      have htk : (l.take (j + 1)).filter p = (l.take j).filter p ++ (if p l[j] then [l[j]] else []) := by
        rw [List.take_succ_eq_append_getElem hj', List.filter_append]
        cases hp : p l[j] <;> simp [hp]
      cases hp : p l[j] with
      | false =>
        simp [hn, h0, h1, h13, h14, h15, h5]
        refine ⟨l.length - (j + 1), by omega, by simp [hn], by simp [h0], by simp [h1], by simp [h13], by simp [h14], j + 1, v5, i5, rfl, by omega, by simp [wrap_succ (show j < 1000000 by omega)], by simp [h5], ?_, hi5, q5⟩
        rw [htk, hp]
        simp
        exact Sl.move hs5 (q3.trans q4) (by simp)
      | true =>
        simp [hn, h0, h1, h13, h14, h15, h5, hbox]
        have q6 : Quiet [] s2 (s4.rdl s2.n) := (q3.trans q4).rdl _
        refine buildSlice1_ok t42 z3 rfl rfl rfl rfl (by decide) fun v6 s6 h6 q7 n6 _ => ?_
        simp [hn, h0, h1, h13, h14, h15, h5]
        have hs6 : Si s6 v5 (((l.take j).filter p).map (·.id)) i5 := Sl.move hs5 (q6.trans q7) (by simp)
        have hfl := List.length_filter_le p (l.take j)
        refine append_ok t42 t42.1 hs6 (Sl.src h6) (plains_map _) rfl (by simp at hfl ⊢; omega) fun v7 s7 i7 h7 q8 c7 _ _ _ _ => ?_
        simp [hn, h0, h1, h13, h14, h15, h5]
        have q9 : Quiet [] s s6 := (hq.trans q6).trans q7
        have m9 := q9.n
        refine ⟨l.length - (j + 1), by omega, by simp [hn], by simp [h0], by simp [h1], by simp [h13], by simp [h14], j + 1, v7, i7, rfl, by omega, by simp [wrap_succ (show j < 1000000 by omega)], by simp [h5], ?_, by rcases c7 with rfl | c7 <;> omega, q9.then q8 hi5⟩
        rw [htk, hp]
        simpa [Si] using h7
    · have hj' : j = l.length := by simp at t; omega
      subst hj'
      have hb2 : s2.h.get ib = some (.cells [vb, fl]) := by rw [hq.keep ib hib (by simp)]; exact hb
      simp [hn, h0, h1, h13, h14, h15, h5, hb2]
      simp at hs5
      obtain ⟨hi2, ⟨rfl, rfl⟩ | ⟨rfl, r, hr⟩⟩ := h2
      · refine callB (call54n (p := p) fun s' q q' => hf s' q (((hq.rdl _).trans q').nil)) ?_
        rintro v s3 ⟨rfl, q3⟩
        have q4 : Quiet [] s2 s3 := ((Quiet.refl _ _).rdl _).trans q3
        have hb3 : s3.h.get ib = some (.cells [.slice none 0 0, fl]) := by
          rw [q4.keep ib (Nat.lt_of_lt_of_le hib hq.n) (by simp)]; exact hb2
        simp [hn, h0, h1, h13, h14, h15, h5, hb3, st25]
        refine hQ _ _ ⟨i5, .slice none 0 0, Sl.move hs5 ((q4.rdl ib).sub (V := [i, ib]) (fun k hk => .inl (by simp at hk)) |>.wrl ib _ (.inl (by simp))) (by simp; omega), hi5, by simp, ?_, ?_⟩
        · exact ⟨by simpa using Nat.lt_of_lt_of_le hi2 q4.n, .inl ⟨rfl, rfl⟩⟩
        · exact (((hq.trans q4).nil).rdl _).wrl _ _ (.inl (by simp))
      · refine callB (call54 (s := s2.rdl ib) (p := p) (by simpa using hr) (by simpa using hi2) hsm fun s' q q' => hf s' q ((hq.rdl _).nil.trans q')) ?_
        rintro v s3 ⟨rfl, ⟨r', hr'⟩, q3⟩
        have q4 : Quiet [i] s2 s3 := ((Quiet.refl _ _).rdl _).trans q3
        have hb3 : s3.h.get ib = some (.cells [openSl i 0 8 l.length, fl]) := by
          rw [q4.keep ib (Nat.lt_of_lt_of_le hib hq.n) (by simp; omega)]; exact hb2
        simp [hn, h0, h1, h13, h14, h15, h5, hb3, st25]
        refine hQ _ _ ⟨i5, _, ?_, hi5, by simp; rfl, ?_, ?_⟩
        · exact Sl.move hs5 ((q4.rdl ib).sub (V := [i, ib]) (fun k hk => .inl (by simp at hk; simp [hk])) |>.wrl ib _ (.inl (by simp))) (by simp; omega)
        · refine ⟨by simpa using Nat.lt_of_lt_of_le hi2 q4.n, .inr ⟨rfl, r', ?_⟩⟩
          simp [hne, hr']
        · exact ((((hq.nil.trans q4).sub (V := [i, ib]) (fun k hk => .inl (by simp at hk; simp [hk])))).rdl _).wrl _ _ (.inl (by simp))
  · refine ⟨by simp, by simp, by simp, by simp, by simp, 0, .slice none 0 0, s.n, by simp, by simp, by simp, by simp, ?_, by omega, (Quiet.refl _ _).rdl _⟩
    simpa [Si] using Sl.nil _ _ _

/-- (*Board).Leave -/
theorem call14 {s : St} {fl : Value} {ib i : Nat} {vb : Value} {l : List Qo} (hb : s.h.get ib = some (.cells [vb, fl])) (hib : ib < s.n) (h : Bq s vb l i) (hne : i ≠ ib) (hsm : l.length ≤ 1000) (m : Int) :
    CallA Tryz.prog Tryz.tab 14 [ptr ib 0, .int .i64 m] s fun v s' =>
      ∃ k vb', Si s' v ((l.filter fun q => decide (q.member = m)).map (·.id)) k ∧ s.n ≤ k ∧ s'.h.get ib = some (.cells [vb', fl]) ∧ Bq s' vb' (l.filter fun q => !decide (q.member = m)) i ∧ Quiet [i, ib] s s' := by
  have hi0 := h.1
  refine callA_q fun Q hQ => ?_
  refine callA_of (fn := Tryz.f14) (n := 8) (rs := [.tmp 4]) (by kernel_rfl) rfl rfl rfl (by simp) ?_
  simp
  have q1 : Quiet [] s (s.nw (.cells [.int .i64 m])) := (Quiet.refl _ _).nw _
  refine callB (call37 (fl := fl) (vb := vb) (i := i) (l := l) (p := fun q => decide (q.member = m)) (by simp [Nat.ne_of_lt hib, hb]) (by simp; omega) (h.move q1 (by simp)) hne hsm ?_) ?_
  · intro s' q hq
    refine call38 ?_ ?_
    · rw [hq.keep s.n (by simp) (by simp; omega)]; simp
    · have := hq.n; simp at this; omega
  · rintro v s2 ⟨k, vb', h1, h2, h3, h4, h5⟩
    simp
    simp at h2
    exact hQ _ _ ⟨k, vb', h1, by omega, h3, h4, q1.nil.trans h5⟩

/-- (*Board).Expire -/
theorem call15 {s : St} {fl : Value} {ib i : Nat} {vb : Value} {l : List Qo} (hb : s.h.get ib = some (.cells [vb, fl])) (hib : ib < s.n) (h : Bq s vb l i) (hne : i ≠ ib) (hsm : l.length ≤ 1000) (m : Int) :
    CallA Tryz.prog Tryz.tab 15 [ptr ib 0, .int .i64 m] s fun v s' =>
      ∃ k vb', Si s' v ((l.filter fun q => decide (q.start < m)).map (·.id)) k ∧ s.n ≤ k ∧ s'.h.get ib = some (.cells [vb', fl]) ∧ Bq s' vb' (l.filter fun q => !decide (q.start < m)) i ∧ Quiet [i, ib] s s' := by
  have hi0 := h.1
  refine callA_q fun Q hQ => ?_
  refine callA_of (fn := Tryz.f15) (n := 8) (rs := [.tmp 4]) (by kernel_rfl) rfl rfl rfl (by simp) ?_
  simp
  have q1 : Quiet [] s (s.nw (.cells [.int .i64 m])) := (Quiet.refl _ _).nw _
  refine callB (call37 (fl := fl) (vb := vb) (i := i) (l := l) (p := fun q => decide (q.start < m)) (by simp [Nat.ne_of_lt hib, hb]) (by simp; omega) (h.move q1 (by simp)) hne hsm ?_) ?_
  · intro s' q hq
    refine call39 ?_ ?_
    · rw [hq.keep s.n (by simp) (by simp; omega)]; simp
    · have := hq.n; simp at this; omega
  · rintro v s2 ⟨k, vb', h1, h2, h3, h4, h5⟩
    simp
    simp at h2
    exact hQ _ _ ⟨k, vb', h1, by omega, h3, h4, q1.nil.trans h5⟩

/-! ### the document's side -/

/-- lombardref21.Same, lombardref01.Ints -/
def ISame (n : Nat) (va vb : Value) (a b : List Qo) (s : St) (k : Nat) (f : AF) (s2 : St) : Prop :=
  f.n = n ∧ f.get 0 = va ∧ f.get 1 = vb ∧ ∃ j : Nat, k = a.length - j ∧ j ≤ a.length ∧ f.get 5 = .int .i64 (j : Int) ∧ Quiet [] s s2

theorem fields29 : (Tryz.prog.fieldsOf 29).toList = ([{ name := "ID", type := 3, offset := 0, embedded := false, tag := "", pkgPath := "", byteOffset := 0 }, { name := "Member", type := 3, offset := 1, embedded := false, tag := "", pkgPath := "", byteOffset := 8 }, { name := "Side", type := 3, offset := 2, embedded := false, tag := "", pkgPath := "", byteOffset := 16 }, { name := "Basket", type := 3, offset := 3, embedded := false, tag := "", pkgPath := "", byteOffset := 24 }, { name := "Amount", type := 3, offset := 4, embedded := false, tag := "", pkgPath := "", byteOffset := 32 }, { name := "Rate", type := 3, offset := 5, embedded := false, tag := "", pkgPath := "", byteOffset := 40 }, { name := "Start", type := 3, offset := 6, embedded := false, tag := "", pkgPath := "", byteOffset := 48 }, { name := "End", type := 3, offset := 7, embedded := false, tag := "", pkgPath := "", byteOffset := 56 }] : List Field) := by kernel_rfl
theorem neq29 {x y : Operand} (q : Qo) (K : Value → Prop) (k : K (.bool false)) : @BinB Tryz.prog .neq 29 x y q.val q.val ⟨K⟩ := by
  refine bindO_of (a := .bool false) ?_ k
  refine neq_struct (by kernel_rfl) (by kernel_rfl) rfl (by kernel_rfl) ?_
  rw [fields29]
  refine all_cons ⟨by decide, by kernel_rfl, q.id, by kernel_rfl⟩ ?_
  refine all_cons ⟨by decide, by kernel_rfl, q.member, by kernel_rfl⟩ ?_
  refine all_cons ⟨by decide, by kernel_rfl, q.side, by kernel_rfl⟩ ?_
  refine all_cons ⟨by decide, by kernel_rfl, q.basket, by kernel_rfl⟩ ?_
  refine all_cons ⟨by decide, by kernel_rfl, q.amount, by kernel_rfl⟩ ?_
  refine all_cons ⟨by decide, by kernel_rfl, q.rate, by kernel_rfl⟩ ?_
  refine all_cons ⟨by decide, by kernel_rfl, q.start, by kernel_rfl⟩ ?_
  refine all_cons ⟨by decide, by kernel_rfl, q.stop, by kernel_rfl⟩ ?_
  intro f hf
  cases hf

theorem call8 {s : St} {va vb : Value} {l : List Qo} {ia ib : Nat} (ha : Sq s va l ia) (hb : Sq s vb l ib) (hsm : l.length ≤ 1000) :
    CallA Tryz.prog Tryz.tab 8 [va, vb] s fun v s' => v = .bool true ∧ Quiet [] s s' := by
  refine callA_q fun Q hQ => ?_
  refine callA_of (fn := Tryz.f8) (n := 26) (rs := [.tmp 4]) (by kernel_rfl) rfl rfl rfl (by simp) ?_
  simp [ha.len, hb.len]
  refine loopB (ISame 26 va vb l l s) ?_ (k := l.length) ?_
  · rintro k f s2 ⟨hn, h0, h1, j, hk, hj, h5, hq⟩
    have ha2 := ha.move hq (by simp)
    have hb2 := hb.move hq (by simp)
    simp [hn, h0, h1, h5, ha2.len]
    refine testB (fun t => ?_) (fun t => ?_)
    · have hj' : j < l.length := by simpa using t
      obtain ⟨hi1, r1, hr1⟩ := ha2.row hj'
      obtain ⟨hi2, r2, hr2⟩ := hb2.row hj'
      simp [hn, h0, h1, h5]
      refine drwB (by kernel_rfl) ?_
      simp [hn, h0, h1, h5, ha2.ia j hj', hb2.ia j hj', hr1, hr2, hj']
      refine neq29 _ _ ?_
      simp [hn, h0, h1, h5]
      exact ⟨l.length - (j + 1), by omega, by simp [hn], by simp [h0], by simp [h1], j + 1, rfl, by omega, by simp [wrap_succ (show j < 1000000 by omega)], (hq.rdl _).rdl _⟩
    · simp [hn, h0, h1, h5]
      exact hQ _ _ ⟨rfl, hq⟩
  · exact ⟨by simp, by simp, by simp, 0, by simp, by simp, by simp, .refl _ _⟩

theorem t42len {s : St} {v : Value} {l : List Int} {i : Nat} (h : Si s v l i) : aBuiltin Tryz.prog .len [42] [v] = .ret (.int .i64 l.length) := Sl.len h t42
theorem slabi {l : List Int} {j : Nat} (h : j < l.length) (r : List Value) : slab (l.map (fun n => Value.int .i64 n) ++ r) j 1 = some [.int .i64 l[j]] := by
  refine slab_mid (a := (l.take j).map fun n => .int .i64 n) (b := (l.drop (j + 1)).map (fun n => .int .i64 n) ++ r) ?_ (by simp; omega) rfl
  have e : l.map (fun n => Value.int .i64 n) = (l.take j).map (fun n => .int .i64 n) ++ (.int .i64 l[j] :: (l.drop (j + 1)).map fun n => .int .i64 n) := by
    have := congrArg (List.map fun n => Value.int .i64 n) (show l = l.take j ++ (l[j] :: l.drop (j + 1)) by rw [← List.drop_eq_getElem_cons h, List.take_append_drop])
    simpa only [List.map_append, List.map_cons] using this
  rw [e]
  simp only [List.append_assoc, List.cons_append, List.nil_append]

theorem call27 {s : St} {va vb : Value} {l : List Int} {ia ib : Nat} (ha : Si s va l ia) (hb : Si s vb l ib) (hsm : l.length ≤ 1000) :
    CallA Tryz.prog Tryz.tab 27 [va, vb] s fun v s' => v = .bool true ∧ Quiet [] s s' := by
  refine callA_q fun Q hQ => ?_
  refine callA_of (fn := Tryz.f27) (n := 26) (rs := [.tmp 4]) (by kernel_rfl) rfl rfl rfl (by simp) ?_
  simp [t42len ha, t42len hb]
  refine loopB (fun k f s2 => f.n = 26 ∧ f.get 0 = va ∧ f.get 1 = vb ∧ ∃ j : Nat, k = l.length - j ∧ j ≤ l.length ∧ f.get 5 = .int .i64 (j : Int) ∧ Quiet [] s s2) ?_ (k := l.length) ?_
  · rintro k f s2 ⟨hn, h0, h1, j, hk, hj, h5, hq⟩
    have ha2 : Si s2 va l ia := Sl.move ha hq (by simp)
    have hb2 : Si s2 vb l ib := Sl.move hb hq (by simp)
    simp [hn, h0, h1, h5, t42len ha2]
    refine testB (fun t => ?_) (fun t => ?_)
    · have hj' : j < l.length := by simpa using t
      obtain ⟨hi1, r1, hr1⟩ := Sl.row ha2 (show 0 < l.length by omega)
      obtain ⟨hi2, r2, hr2⟩ := Sl.row hb2 (show 0 < l.length by omega)
      simp [hn, h0, h1, h5]
      refine drwB (by kernel_rfl) ?_
      simp [hn, h0, h1, h5, Sl.ia ha2 t42 j hj', Sl.ia hb2 t42 j hj', hr1, hr2, hj', slabi]
      exact ⟨l.length - (j + 1), by omega, j + 1, rfl, by omega, by simp [wrap_succ (show j < 1000000 by omega)], (hq.rdl _).rdl _⟩
    · simp [hn, h0, h1, h5]
      exact hQ _ _ ⟨rfl, hq⟩
  · simp
    exact ⟨0, by simp, by simp, by simp, .refl _ _⟩
end Go.Proofs.Qt
