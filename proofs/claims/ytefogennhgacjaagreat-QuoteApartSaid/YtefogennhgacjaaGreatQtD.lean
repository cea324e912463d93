/- Quotes: slices.Delete, slices.DeleteFunc, what a board drops. -/
import Derived.Test.YtefogennhgacjaaGreatQtC
namespace Go.Proofs.Qt
open Go Go.Ax Go.Proofs
set_option maxRecDepth 100000
set_option linter.unusedSimpArgs false
set_option linter.unusedVariables false

theorem aSlice_open_mx (sz i o n l h m : Nat) (hl : l ≤ h) (hh : h ≤ m) (hm : m ≤ n) : ∃ x, aSlice sz (openSl i o sz n) (some (.int .i64 (l : Int))) (some (.int .i64 (h : Int))) (some (.int .i64 (m : Int))) = some x := by
  have e : aSlice0 sz (.slice (some ⟨i, o, some sz⟩) n 0) (some (.int .i64 (l : Int))) (some (.int .i64 (h : Int))) (some (.int .i64 (m : Int))) = match Nat.beq sz sz with
    | false => none
    | true => match bnd (some (.int .i64 (m : Int))) 0 n with
        | none => none
        | some m => match bnd (some (.int .i64 (h : Int))) 0 m with
          | none => none
          | some h => match bnd (some (.int .i64 (l : Int))) 0 h with
            | none => none
            | some l => some (.slice (some ⟨i, (match Nat.beq m l with | true => o | false => o + l * sz), none⟩) (h - l) (m - l)) := rfl
  unfold aSlice
  dsimp only
  rw [show openSl i o sz n = .slice (some ⟨i, o, some sz⟩) n 0 from rfl, e, show Nat.beq sz sz = true from by simp]
  dsimp only
  rw [bnd_nat m n 0 .i64 hm]
  dsimp only
  rw [bnd_nat h m 0 .i64 hh]
  dsimp only
  rw [bnd_nat l h 0 .i64 hl]
  exact ⟨_, rfl⟩

def z29v : Value := .agg #[.int .i64 0, .int .i64 0, .int .i64 0, .int .i64 0, .int .i64 0, .int .i64 0, .int .i64 0, .int .i64 0]
@[simp] theorem lay_z29 (q : Qo) : lay q.enc 0 (cellsOf z29v) = some q.enc := rfl
theorem z29' : zeroOf Tryz.prog 29 = some z29v := z29
theorem open_sq {s : St} {l : List Qo} {i : Nat} {r : List Value} (hr : s.h.get i = some (.cells (flat l ++ r))) (hi : i < s.n) : Sq s (openSl i 0 8 l.length) l i :=
  ⟨flat_length l, .inr ⟨hi, ⟨some 8, 0, rfl, .inr ⟨rfl, rfl⟩⟩, r, hr⟩⟩
@[simp] theorem len25o (i o n : Nat) : aBuiltin Tryz.prog .len [25] [openSl i o 8 n] = .ret (.int .i64 (n : Int)) := len_of t25.1 _ _ _ (.inr (by simp))
theorem nostro (i o sz n : Nat) : ∀ st, openSl i o sz n ≠ .string st := by intro st e; cases e

/-- slices.Delete -/
theorem call30 {s : St} {l : List Qo} {i : Nat} {r : List Value} (hr : s.h.get i = some (.cells (flat l ++ r))) (hi : i < s.n) (hsm : l.length ≤ 1000) (j : Nat) (hj : j < l.length) :
    CallA Tryz.prog Tryz.tab 30 [openSl i 0 8 l.length, .int .i64 (j : Int), .int .i64 ((j + 1 : Nat) : Int)] s fun v s' =>
      v = openSl i 0 8 (l.length - 1) ∧ (∃ r', s'.h.get i = some (.cells (flat (l.take j ++ l.drop (j + 1)) ++ r'))) ∧ Quiet [i] s s' := by
  refine callA_of (fn := Tryz.f30) (n := 33) (rs := [.tmp 6]) (by kernel_rfl) rfl rfl rfl (by simp) ?_
  simp
  obtain ⟨x, e⟩ := aSlice_open_mx 8 i 0 l.length j (j + 1) l.length (by omega) (by omega) (by omega)
  refine slcB_of t25 (nostro _ _ _ _) e ?_
  simp
  rw [show decide ((j : Int) = (j : Int) + 1) = false from by simp; omega]
  simp
  refine drwB (by kernel_rfl) ?_
  simp
  refine slcB_of t25 (nostro _ _ _ _) (aSlice_open_hi 8 i 0 l.length j (by omega)) ?_
  simp
  have h0 := open_sq hr hi
  obtain ⟨y, e, hy⟩ := Sl.lo h0 (j + 1) (by omega)
  refine slcB_of t25 (nostro _ _ _ _) e ?_
  simp
  have hrow : s.h.get i = some (.cells (flat (l.take j) ++ (flat (l.drop j) ++ r))) := by
    rw [hr, ← List.append_assoc, ← flat_append, List.take_append_drop]
  rw [flat_drop] at hy
  refine append_room t25 t25.1 hrow (by rw [flat_length]; simp; omega) hy (by simp) (by simp [flat_length]; omega) (by omega) fun s1 q1 n1 hr1 => ?_
  rw [show j + (l.length - (j + 1)) = l.length - 1 from by omega]
  simp
  obtain ⟨rest, hrest⟩ : ∃ rest, rest = List.drop (flat (List.drop (j + 1) l)).length (flat (List.drop j l) ++ r) := ⟨_, rfl⟩
  have hlen : rest.length = 8 + r.length := by
    rw [hrest]; simp [flat_length]; omega
  rw [← hrest] at hr1
  have hrow1 : s1.h.get i = some (.cells (flat (l.take j ++ l.drop (j + 1)) ++ (rest.take 8 ++ rest.drop 8))) := by
    rw [hr1, flat_append, List.take_append_drop, List.append_assoc]
  refine slcB_far t25 hrow1 (by omega) (by simp [flat_length]; omega) (by omega) ?_
  simp
  refine clear_ok t25 z29 rfl rfl (a := flat (l.take j ++ l.drop (j + 1))) (x := rest.take 8) (b := rest.drop 8) (by simpa using hrow1) (by simp [flat_length]; omega) (by simp; omega) fun s3 y q3 n3 hr3 hy3 => ?_
  simp
  refine ⟨⟨_, hr3⟩, ?_⟩
  exact (q1.trans ((Quiet.refl _ _).rdl _)).trans q3

/-- What holds at the head of DeleteFunc's loop. -/
def I54 (s : St) (l : List Qo) (i : Nat) (r : List Value) (p : Qo → Bool) (F : Value) (k : Nat) (f : AF) (s2 : St) : Prop :=
  f.n = 42 ∧ f.get 0 = openSl i 0 8 l.length ∧ f.get 1 = F ∧
      ∃ (b : Nat) (mid : List Qo), k = l.length - b ∧ b ≤ l.length ∧ f.get 5 = .int .i64 (((l.take b).filter fun q => !p q).length : Int) ∧ f.get 6 = .int .i64 (b : Int) ∧ mid ≠ [] ∧
        ((l.take b).filter fun q => !p q).length + mid.length = b ∧ s2.h.get i = some (.cells (flat (((l.take b).filter fun q => !p q) ++ (mid ++ l.drop b)) ++ r)) ∧ Quiet [i] s s2

/-- slices.DeleteFunc -/
theorem call54 {s : St} {l : List Qo} {i : Nat} {r : List Value} (hr : s.h.get i = some (.cells (flat l ++ r))) (hi : i < s.n) (hsm : l.length ≤ 1000) {g : FuncId} {cs : List Value} {p : Qo → Bool}
    (hf : ∀ s' q, Quiet [i] s s' → CallA Tryz.prog Tryz.tab g (q.val :: cs) s' fun v s'' => v = .bool (p q) ∧ Quiet [] s' s'') :
    CallA Tryz.prog Tryz.tab 54 [openSl i 0 8 l.length, .func (.func g) (List.toArray []) (List.toArray cs)] s fun v s' =>
      v = openSl i 0 8 (l.filter fun q => !p q).length ∧ (∃ r', s'.h.get i = some (.cells (flat (l.filter fun q => !p q) ++ r'))) ∧ Quiet [i] s s' := by
  refine callA_of (fn := Tryz.f54) (n := 42) (rs := [.tmp 4]) (by kernel_rfl) rfl rfl rfl (by simp) ?_
  simp
  refine callB (call49 (open_sq hr hi) hsm (p := p) fun s' q hq => hf s' q hq.nil) ?_
  rintro v s1 ⟨hv, q1⟩
  rcases hv with ⟨j, rfl, hj, hpj, hall⟩ | ⟨rfl, hall⟩
  · simp
    refine loopB (I54 s l i r p (.func (.func g) (List.toArray []) (List.toArray cs))) ?_ (k := l.length - (j + 1)) ?_
    · rintro k f s2 ⟨hn, h0, h1, b, mid, hk, hb, h5, h6, hmid, hlen, hrow, hq⟩
      have hi2 : i < s2.n := Nat.lt_of_lt_of_le hi hq.n
      simp [hn, h0, h1, h5, h6]
      refine testB (fun t => ?_) (fun t => ?_)
      · have hb' : b < l.length := by simpa using t
        obtain ⟨kept, hkept⟩ : ∃ kept, kept = (l.take b).filter fun q => !p q := ⟨_, rfl⟩
        rw [← hkept] at h5 hlen hrow
        have hlen2 : (kept ++ (mid ++ l.drop b)).length = l.length := by simp; omega
        have hS : Sq s2 (openSl i 0 8 l.length) (kept ++ (mid ++ l.drop b)) i := by
          have := open_sq hrow hi2
          rwa [hlen2] at this
        have hgb : ∀ h, (kept ++ (mid ++ l.drop b))[b]'h = l[b] := by
          intro h
          rw [List.getElem_append_right (by omega), List.getElem_append_right (by omega)]
          simp only [List.getElem_drop]
          congr 1
          omega
        have hs8 : slab (flat (kept ++ (mid ++ l.drop b)) ++ r) (b * 8) 8 = some l[b].enc := by
          rw [slab8 (by omega) r, hgb]
        have hia := hS.ia b (by omega)
        have htk : (l.take (b + 1)).filter (fun q => !p q) = kept ++ (if p l[b] then [] else [l[b]]) := by
          rw [List.take_succ_eq_append_getElem hb', List.filter_append, ← hkept]
          cases hp : p l[b] <;> simp [hp]
        have hdr : l.drop b = l[b] :: l.drop (b + 1) := List.drop_eq_getElem_cons hb'
        simp [hn, h0, h1, h6, hia, hrow, hs8, z29']
        have q3 : Quiet [i] s2 ((((s2.rdl i).nw (.cells (cellsOf z29v))).rdl s2.n).wrl s2.n (.cells l[b].enc)) := ((((Quiet.refl _ _).rdl _).nw _).rdl _).wrl _ _ (.inr (Nat.le_refl _))
        refine callB (hf _ _ (hq.trans (q3.rdl s2.n))) ?_
        rintro v s4 ⟨rfl, q4⟩
        have hbox : s4.h.get s2.n = some (.cells l[b].enc) := by
          rw [q4.keep s2.n (by simp) (by simp)]; simp
        have hrow4 : s4.h.get i = some (.cells (flat (kept ++ (mid ++ l.drop b)) ++ r)) := by
          rw [q4.keep i (by simp; omega) (by simp)]; simp [Nat.ne_of_lt hi2, hrow]
        have q5 : Quiet [i] s s4 := (hq.trans (q3.rdl s2.n)).trans q4.nil
        have ha := hS.ia kept.length (by omega)
        cases hp : p l[b] with
        | true =>
          simp [hn, h0, h1, h5, h6]
          refine ⟨l.length - (b + 1), by omega, by simp [hn], by simp [h0], by simp [h1], b + 1, mid ++ [l[b]], rfl, by omega, ?_, by simp [wrap_succ (show b < 1000000 by omega)], by simp, ?_, ?_, q5⟩
          · rw [htk, hp]; simp [h5]
          · rw [htk, hp]; simp; omega
          · rw [htk, hp, hrow4, hdr]; simp
        | false =>
          obtain ⟨m0, ms, rfl⟩ := List.exists_cons_of_ne_nil hmid
          simp [hn, h0, h1, h5, h6, hbox, ha]
          refine stB_of (c := flat (kept ++ (m0 :: ms ++ l.drop b)) ++ r) (c2 := flat (kept ++ [l[b]]) ++ (flat (ms ++ l.drop b) ++ r)) (by simpa using hrow4) rfl ?_ ?_
          · have := lay_mid (a := flat kept) (x := m0.enc) (b := flat (ms ++ l.drop b) ++ r) (vs := l[b].enc) (o := kept.length * 8) (by rw [flat_length]) rfl
            rw [show flat (kept ++ (m0 :: ms ++ l.drop b)) ++ r = flat kept ++ (m0.enc ++ (flat (ms ++ l.drop b) ++ r)) from by rw [flat_append]; simp [flat]]
            rw [this]; simp [flat_append, flat]
          · simp [hn, h0, h1, h5, h6]
            refine ⟨l.length - (b + 1), by omega, by simp [hn], by simp [h0], by simp [h1], b + 1, ms ++ [l[b]], rfl, by omega, ?_, by simp [wrap_succ (show b < 1000000 by omega)], by simp, ?_, ?_, ?_⟩
            · rw [htk, hp]; simp [wrap_succ (show kept.length < 1000000 by simp at hlen; omega)]
            · rw [htk, hp]; simp at hlen ⊢; omega
            · rw [htk, hp, hdr]; simp [flat_append, flat]
            · exact ((q5.rdl _).rdl _).wrl _ _ (.inl (by simp))
      · have hb' : b = l.length := by simp at t; omega
        subst hb'
        simp at h5 hlen hrow
        obtain ⟨kept, hkept⟩ : ∃ kept, kept = l.filter fun q => !p q := ⟨_, rfl⟩
        rw [← hkept] at h5 hlen hrow ⊢
        simp [hn, h0, h1, h5, h6]
        refine slcB_of t25 (nostro _ _ _ _) (aSlice_open_lo 8 i 0 l.length kept.length (by omega)) ?_
        simp [hn, h0, h1, h5, h6]
        refine clear_ok (o := kept.length * 8) (k := l.length - kept.length) (sp := some 8) (cap := 0) t25 z29 rfl rfl (a := flat kept) (x := flat mid) (b := r) (by rw [hrow, flat_append, List.append_assoc]) (by simp [flat_length]) (by simp [flat_length]; omega) fun s3 y q3 n3 hr3 hy3 => ?_
        simp [hn, h0, h1, h5, h6]
        refine slcB_of t25 (nostro _ _ _ _) (aSlice_open_hi 8 i 0 l.length kept.length (by omega)) ?_
        simp [hn, h0, h1, h5, h6]
        exact ⟨⟨_, hr3⟩, hq.trans q3⟩
    · have hw := wrap_succ (show j < 1000000 by omega)
      have htk : (l.take (j + 1)).filter (fun q => !p q) = l.take j := by
        rw [List.take_succ_eq_append_getElem hj, List.filter_append]
        have : (l.take j).filter (fun q => !p q) = l.take j := by
          rw [List.filter_eq_self]
          intro q hq
          obtain ⟨m, hm, rfl⟩ := List.getElem_of_mem hq
          simp at hm
          simp [hall m (by omega)]
        rw [this]
        simp [hpj]
      refine ⟨by simp, by simp, by simp, j + 1, [l[j]], rfl, by omega, ?_, by simp [hw], by simp, ?_, ?_, q1.nil⟩
      · rw [htk]; simp; omega
      · rw [htk]; simp; omega
      · rw [htk, q1.keep i hi (by simp), hr]
        have : l.take j ++ ([l[j]] ++ l.drop (j + 1)) = l := by
          rw [List.singleton_append, ← List.drop_eq_getElem_cons hj, List.take_append_drop]
        rw [this]
  · simp
    have : l.filter (fun q => !p q) = l := by
      rw [List.filter_eq_self]
      intro q hq
      obtain ⟨m, hm, rfl⟩ := List.getElem_of_mem hq
      simp [hall m hm]
    rw [this]
    exact ⟨rfl, ⟨r, by rw [q1.keep i hi (by simp)]; exact hr⟩, q1.nil⟩
end Go.Proofs.Qt
