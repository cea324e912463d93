/- AX: the operations are those of the model: append. -/
import Derived.Test.YtefogennhgacjaaGreatAxSound3
namespace Go.Ax
set_option linter.unusedSimpArgs false
set_option linter.unusedVariables false
open Go

section
variable {P : Program} {B : Nat} {w0 : World} {m : Map}

theorem okElem_spec {e : TypeId} {sz bytes n : Nat} (h : okElem P e sz bytes n = true) :
    ∃ z, zeroOf P e = some z ∧ (cellsOf z).length = sz ∧ n ≤ 16777216 ∧ bytes ≤ 1048576 ∧ 0 < sz ∧ 0 < bytes := by
  unfold okElem at h
  split at h
  · rename_i z hz
    simp only [Bool.and_eq_true] at h
    obtain ⟨⟨⟨⟨h1, h2⟩, h3⟩, h4⟩, h5⟩ := h
    exact ⟨z, hz, Nat.eq_of_beq_eq_true h1, Nat.le_of_ble_eq_true h2, Nat.le_of_ble_eq_true h3, by simpa [Nat.blt_eq] using h4, by simpa [Nat.blt_eq] using h5⟩
  · cases h

theorem growBy_le (newLen : Nat) : ∀ (r c : Nat), Builtin.growBy newLen r c ≤ max c (newLen + (newLen + 768) / 4)
  | 0, c => by simp [Builtin.growBy]; omega
  | r + 1, c => by
    unfold Builtin.growBy
    split
    · omega
    · have := growBy_le newLen r (c + (c + 768) / 4)
      omega

theorem nextslicecap_le {need cap : Nat} (h : cap < need) : Builtin.nextslicecap need cap ≤ 2 * need + 768 := by
  unfold Builtin.nextslicecap
  split
  · omega
  · split
    · omega
    · have := growBy_le need 4 cap
      omega

theorem next_small {need cap bytes : Nat} (h : cap < need) (hn : need ≤ 16777216) (hb : bytes ≤ 1048576) : ¬ (Builtin.nextslicecap need cap * bytes > 2 ^ 48) := by
  have h1 := nextslicecap_le h
  have h2 : Builtin.nextslicecap need cap * bytes ≤ 33555200 * 1048576 := Nat.mul_le_mul (by omega) hb
  omega

/-- append, where there is room. -/
theorem append_fits {t u e : TypeId} {d : TypeDesc} {ty : TypeId} {rest : List TypeId} {sz len cap n : Nat} {a : Option Addr} {x : Value} {new : List Value} {w : World}
    (ht : (underlying t).run P w = .ok (.slice e) w) (hs : (sizeOf e).run P w = .ok sz w) (hu : (underlying u).run P w = .ok d w) (hd : ∀ k, d ≠ .int k)
    (hn : (Builtin.lenOf x).run P w = .ok n w) (hf : (Builtin.firstCells sz n x).run P w = .ok ⟨new⟩ w) (hfit : len + n ≤ cap) :
    (Builtin.append_ ⟨t :: u :: rest⟩ ty ⟨[.slice a len cap, x]⟩).run P w =
      match a with
      | some a => ((storeCells (a.add (len * sz)) new).run P w).andThen fun _ w' => .ok (.slice (some a) (len + n) cap) w'
      | none => .ok (.slice none (len + n) cap) w := by
  have hz : (match d with | .int _ => true | _ => false) = false := by
    cases d <;> first | rfl | exact absurd rfl (hd _)
  unfold Builtin.append_
  cases a <;> simp [ht, hs, hu, hz, hn, hf, hfit]

/-- append, where there is no room: a new block. -/
theorem append_grows {t u e : TypeId} {d : TypeDesc} {ty : TypeId} {rest : List TypeId} {sz len cap n : Nat} {a : Option Addr} {x : Value} {new old : List Value} {w : World} {ti : TypeInfo} {z : Value}
    (ht : (underlying t).run P w = .ok (.slice e) w) (hs : (sizeOf e).run P w = .ok sz w) (hu : (underlying u).run P w = .ok d w) (hd : ∀ k, d ≠ .int k)
    (hti : ∀ w, (typeInfo e).run P w = .ok ti w) (hz : ∀ w, (zeroValue e).run P w = .ok z w)
    (hn : (Builtin.lenOf x).run P w = .ok n w)
    (hf : (Builtin.firstCells sz n x).run P w.drew = .ok ⟨new⟩ w.drew)
    (ho : (Builtin.firstCells sz len (.slice a len cap)).run P w.drew = .ok ⟨old⟩ w.drew)
    (hfit : ¬ len + n ≤ cap) (hsmall : len + n ≤ 16777216) (hb : ti.bytes ≤ 1048576) (hb0 : 0 < ti.bytes) (hzs : z.cells.size = sz) :
    ∃ c more, len + n ≤ c ∧ more.length = (c - (len + n)) * sz ∧
      (Builtin.append_ ⟨t :: u :: rest⟩ ty ⟨[.slice a len cap, x]⟩).run P w =
        .ok (.slice (some ⟨w.heap.size, 0, none⟩) (len + n) c) (w.drew.alloc (.cells ⟨(old ++ new) ++ more⟩ e)) := by
  have hzz : (match d with | .int _ => true | _ => false) = false := by
    cases d <;> first | rfl | exact absurd rfl (hd _)
  have hns := next_small (Nat.lt_of_not_le hfit) hsmall hb
  refine ⟨(Question.appendCap (len + n) cap e).cut (w.tape w.drawn (.appendCap (len + n) cap e)),
    (Builtin.zeroCells z.cells ((Question.appendCap (len + n) cap e).cut (w.tape w.drawn (.appendCap (len + n) cap e)) - (len + n))).toList, ?_, ?_, ?_⟩
  · simp only [Question.cut]; omega
  · simp [Builtin.zeroCells, hzs]
  · unfold Builtin.append_
    have hb1 : ¬ ti.bytes = 0 := by omega
    simp [ht, hs, hu, hzz, hn, hfit, hti, hb1, hns, Question.forced, ho, hf, hz, newRow]
    congr 2
    apply Array.ext'
    simp

theorem Rel.drew {h : T Row} {w : World} (r : Rel B w0 m h w) : Rel B w0 m h w.drew :=
  ⟨fun i x hx => by obtain ⟨b, f, t, h1, h2, h3⟩ := r.row i x hx; exact ⟨b, f, t, h1, h2, h3.block rfl⟩, r.inj, r.below.drew, r.size⟩

/-- A new row, of what was and what is appended. -/
theorem grown {s : St} {w : World} {j sz len n c : Nat} {old old' new new' more : List Value} {e : TypeId} (r : Rel B w0 m s.h w) (hj : m j = none) (ho : VRs m old old') (hn : VRs m new new')
    (hlo : old.length = len * sz) (hln : new.length = n * sz) (hm : more.length = (c - (len + n)) * sz) (hc : len + n ≤ c) (hz : 0 < sz) :
    ∃ m', Sub m m' ∧ Rel B w0 m' (s.h.set j (some (.cells (old ++ new)))) (w.drew.alloc (.cells ⟨(old' ++ new') ++ more⟩ e)) ∧
      VR m' (openSl j 0 sz (len + n)) (.slice (some ⟨w.heap.size, 0, none⟩) (len + n) c) ∧ ∀ i, m' i ≠ none → m i ≠ none ∨ i = j := by
  have := (r.drew).newCells hj (ho.append hn) e more
  refine ⟨_, Map.sub_upd _ hj, this, ?_, ?_⟩
  · refine .slo (Map.upd_same _ _ _) ?_ hc hz (.inr rfl)
    rw [(ho.append hn).length, List.length_append, hlo, hln, hm, Nat.sub_mul]
    have : (len + n) * sz ≤ c * sz := Nat.mul_le_mul_right sz hc
    rw [Nat.add_mul] at *
    omega
  · intro i hi
    by_cases e : i = j
    · exact .inr e
    · rw [Map.upd_ne _ _ e] at hi; exact .inl hi

/-- append, whatever is appended: 'run' is what the model comes to where there is room, and where there is none. -/
structure AppRun (P : Program) (e : TypeId) (sz n : Nat) (new : List Value) (w : World) (s : Value) (run : Result Value) : Prop where
  fits : ∀ a len cap, s = .slice (some a) len cap → len + n ≤ cap → run = ((storeCells (a.add (len * sz)) new).run P w).andThen fun _ w' => .ok (.slice (some a) (len + n) cap) w'
  nil0 : ∀ len cap, s = .slice none len cap → len + n ≤ cap → run = .ok (.slice none (len + n) cap) w
  grows : ∀ a len cap old, s = .slice a len cap → ¬ len + n ≤ cap → len + n ≤ 16777216 →
    (Builtin.firstCells sz len (.slice a len cap)).run P w.drew = .ok ⟨old⟩ w.drew →
    ∃ c more, len + n ≤ c ∧ more.length = (c - (len + n)) * sz ∧ run = .ok (.slice (some ⟨w.heap.size, 0, none⟩) (len + n) c) (w.drew.alloc (.cells ⟨(old ++ new) ++ more⟩ e))

theorem sound_append {e : TypeId} {sz n len0 : Nat} {x x' : Value} {new new' : List Value} {s s1 : St} {v : Value} {w : World} {run : Result Value}
    (hx : VR m x x') (hn : VRs m new new') (hln : new.length = n * sz) (hz : 0 < sz) (hlen : aLen x = some len0) (hsmall : len0 + n ≤ 16777216)
    (hrun : AppRun P e sz n new' w x' run) (h : (aAppend sz x n new).run s = some (v, s1)) (R : Rel B w0 m s.h w) (hfree : ∀ i, s.n ≤ i → i < s1.n → m i = none) :
    ∃ v' w', run = .ok v' w' ∧ Post B w0 m s.n v s1 v' w' := by
  have fin : ∀ {j : Nat} {m' : Map}, (∀ i, m' i ≠ none → m i ≠ none ∨ i = j) → j = s.n → ∀ {h rl wl}, ∀ i, m' i ≠ none → m i ≠ none ∨ (s.n ≤ i ∧ i < (⟨h, s.n + 1, rl, wl⟩ : St).n) := by
    intro j m' h1 h2 _ _ _ i hi
    rcases h1 i hi with h | h
    · exact .inl h
    · right; dsimp only; omega
  cases hx
  case nils =>
    simp only [aLen, Option.some.injEq] at hlen
    subst hlen
    simp only [aAppend] at h
    split at h
    · rename_i h0
      have h0 := Nat.eq_of_beq_eq_true h0
      subst h0
      obtain ⟨h1, h2⟩ := run_ret h
      subst h1 h2
      exact ⟨_, _, hrun.nil0 0 0 rfl (Nat.le_refl _), .same R .nils⟩
    · rename_i h0
      have h0 := Nat.ne_of_beq_eq_false h0
      split at h
      · exact (run_fail h).elim
      · have h := run_nw h
        obtain ⟨h1, h2⟩ := run_ret h
        subst h1 h2
        obtain ⟨c, more, g1, g2, g3⟩ := hrun.grows none 0 0 [] rfl (by omega) hsmall (by simp [Builtin.firstCells])
        obtain ⟨m', q1, q2, q3, q4⟩ := grown (old := []) (len := 0) R (hfree _ (Nat.le_refl _) (by simp)) .nil hn (by simp) hln g2 g1 hz
        refine ⟨_, _, g3, m', q1, q2, ?_, fin q4 rfl⟩
        simpa using q3
  case slx i o b f t len cap hm =>
    simp only [aLen, Option.some.injEq] at hlen
    subst hlen
    simp only [aAppend] at h
    split at h
    · rename_i hle
      have hle := Nat.le_of_ble_eq_true hle
      split at h
      · rename_i h0
        have h0 := Nat.eq_of_beq_eq_true h0
        subst h0
        obtain ⟨h1, h2⟩ := run_ret h
        subst h1 h2
        have : new = [] := List.length_eq_zero_iff.1 (by simpa using hln)
        subst this
        cases hn
        refine ⟨_, _, (hrun.fits _ _ _ rfl hle).trans ?_, .same R (.slx hm)⟩
        simp [storeCells]
      · obtain ⟨_, s2, h1, h2⟩ := run_bind_some h
        obtain ⟨h3, h4⟩ := run_ret h2
        subst h3 h4
        obtain ⟨e1, e2, c, c2, hg, hl, e3⟩ := run_stCells h1
        obtain ⟨w', hw', r'⟩ := Rel.stores hm P (o + len * sz) hn e2 0 c c2 _ _ R hg hl
        refine ⟨_, w', (hrun.fits _ _ _ rfl hle).trans ?_, .same (by rw [e3]; exact r') (.slx hm)⟩
        rw [add_addr, Nat.add_assoc, hw']
        rfl
    · rename_i hle
      have hle : ¬ len + n ≤ cap := by
        intro hh
        rw [Nat.ble_eq_true_of_le hh] at hle; cases hle
      split at h
      · exact (run_fail h).elim
      · split at h
        · rename_i h0
          have h0 := Nat.eq_of_beq_eq_true h0
          subst h0
          have h := run_nw h
          obtain ⟨h1, h2⟩ := run_ret h
          subst h1 h2
          obtain ⟨c, more, g1, g2, g3⟩ := hrun.grows _ 0 cap [] rfl hle hsmall (by simp [Builtin.firstCells, loadCells, loadCellsFrom])
          obtain ⟨m', q1, q2, q3, q4⟩ := grown (old := []) (len := 0) R (hfree _ (Nat.le_refl _) (by simp)) .nil hn (by simp) hln g2 g1 hz
          exact ⟨_, _, g3, m', q1, q2, q3, fin q4 rfl⟩
        · obtain ⟨old, s2, h1, h2⟩ := run_bind_some h
          obtain ⟨e1, e2, c, hg, hl⟩ := run_ldCells h1
          obtain ⟨b', f', t', old', p1, p2, p3⟩ := (R.drew).cells hg hl
          rw [hm] at p1; cases p1
          have h2 := run_nw h2
          obtain ⟨h3, h4⟩ := run_ret h2
          subst h3 h4
          obtain ⟨c, more, g1, g2, g3⟩ := hrun.grows _ len cap old' rfl hle hsmall (by simpa [Builtin.firstCells] using p2 P _ rfl)
          have hlo : old.length = len * sz := (slab_spec hl).1
          rw [e1, e2]
          obtain ⟨m', q1, q2, q3, q4⟩ := grown (old := old) (len := len) R (hfree s.n (Nat.le_refl _) (by dsimp only; omega)) p3 hn hlo hln g2 g1 hz
          refine ⟨_, _, g3, m', q1, q2, q3, fin q4 rfl⟩
  case slz i o a =>
    simp only [aLen, Option.some.injEq] at hlen
    subst hlen
    simp only [aAppend] at h
    split at h
    · rename_i hle
      have hle := Nat.le_of_ble_eq_true hle
      have h0 : n = 0 := by omega
      subst h0
      obtain ⟨h1, h2⟩ := run_ret h
      subst h1 h2
      have : new = [] := List.length_eq_zero_iff.1 (by simpa using hln)
      subst this
      cases hn
      refine ⟨_, _, (hrun.fits _ _ _ rfl hle).trans ?_, .same R (.slz (a := a))⟩
      simp [storeCells]
    · rename_i hle
      have hle : ¬ 0 + n ≤ 0 := by
        intro hh
        rw [Nat.ble_eq_true_of_le hh] at hle; cases hle
      split at h
      · exact (run_fail h).elim
      · have h := run_nw h
        obtain ⟨h1, h2⟩ := run_ret h
        subst h1 h2
        obtain ⟨c, more, g1, g2, g3⟩ := hrun.grows _ 0 0 [] rfl hle hsmall (by simp [Builtin.firstCells, loadCells, loadCellsFrom])
        obtain ⟨m', q1, q2, q3, q4⟩ := grown (old := []) (len := 0) R (hfree _ (Nat.le_refl _) (by simp)) .nil hn (by simp) hln g2 g1 hz
        exact ⟨_, _, g3, m', q1, q2, q3, fin q4 rfl⟩
  case slo i o z b f t len cap a hm hc hl hz0 ha =>
    simp only [aLen, Option.some.injEq] at hlen
    subst hlen
    simp only [aAppend] at h
    split at h
    · exact (run_fail h).elim
    · rename_i hzz h0
      have hzz := Nat.eq_of_beq_eq_true hzz
      have h0 := Nat.eq_of_beq_eq_true h0
      subst hzz h0
      obtain ⟨h1, h2⟩ := run_ret h
      subst h1 h2
      have : new = [] := List.length_eq_zero_iff.1 (by simpa using hln)
      subst this
      cases hn
      refine ⟨_, _, (hrun.fits _ _ _ rfl hl).trans ?_, .same R (.slo hm hc hl hz0 ha)⟩
      simp [storeCells]
    · rename_i hzz h0
      have hzz := Nat.eq_of_beq_eq_true hzz
      have h0 := Nat.ne_of_beq_eq_false h0
      subst hzz
      obtain ⟨row, hrow, h⟩ := run_rd h
      cases row with
      | cells c =>
        dsimp only at h
        obtain ⟨b1, f1, t1, p1, p2, c', e', lo, hi, p3, p4, p5, p6, p7⟩ := R.row _ _ hrow
        rw [hm] at p1; cases p1
        split at h
        · rename_i hle
          have hle : o + (len + n) * z ≤ c.length := Nat.le_of_ble_eq_true hle
          have hcap : len + n ≤ cap := by
            have : (len + n) * z ≤ cap * z := by omega
            exact Nat.le_of_mul_le_mul_right this hz0
          have ha' : a = ⟨b, f + o, none⟩ := ha.resolve_left (by omega)
          subst ha'
          obtain ⟨_, s2, h1, h2⟩ := run_bind_some h
          obtain ⟨h3, h4⟩ := run_ret h2
          subst h3 h4
          obtain ⟨e1, e2, c1, c2, hg, hl', e3⟩ := run_stCells h1
          obtain ⟨w', hw', r'⟩ := Rel.stores hm P (o + len * z) hn e2 0 c1 c2 _ _ R hg hl'
          refine ⟨_, w', (hrun.fits _ _ _ rfl hcap).trans ?_, .same (by rw [e3]; exact r') (.slo hm hc hcap hz0 (.inr rfl))⟩
          rw [add_addr, Nat.add_assoc, hw']
          rfl
        · split at h
          · rename_i old hp hs
            obtain ⟨_, h⟩ := run_kl h
            have h := run_nw h
            obtain ⟨h1, h2⟩ := run_ret h
            subst h1 h2
            have hlo : old.length = len * z := (slab_spec hs).1
            have hj : m s.n = none := hfree _ (Nat.le_refl _) (by simp)
            by_cases hcap : len + n ≤ cap
            · have ha' : a = ⟨b, f + o, none⟩ := ha.resolve_left (by omega)
              subst ha'
              have r1 : Rel B w0 (m.upd s.n (b, f + o, t)) ((s.h.set i none).set s.n (some (.cells old))) w := by
                refine (R.kill i).put hj p2 ?_ (fun j hj => .inl rfl) (RowKit.Below.refl B w) ?_
                · intro j y hy b' f' t' h1 h2
                  subst h2
                  rw [T.get_set] at hy
                  split at hy
                  · cases hy
                  · rename_i hne; exact hne (R.inj _ _ _ _ _ _ _ _ _ _ rfl hrow hy hm h1 rfl).symm
                · refine ⟨c', e', lo, hi, p3, p4, p5, ?_, fun j v hv => ?_⟩
                  · have : (len + n) * z ≤ cap * z := Nat.mul_le_mul_right z hcap
                    rw [Nat.add_mul] at this
                    omega
                  · have hj2 : j < len * z := by
                      rcases Nat.lt_or_ge j (len * z) with h | h
                      · exact h
                      · rw [List.getElem?_eq_none (by omega)] at hv; cases hv
                    rw [(slab_spec hs).2.1 j hj2] at hv
                    obtain ⟨v', hv', hr⟩ := p7 _ _ hv
                    refine ⟨v', ?_, hr.mono (Map.sub_upd _ hj)⟩
                    rw [← hv', show f + o + j = f + (o + j) from by omega]
              obtain ⟨w', hw', r2⟩ := Rel.extend (Map.upd_same m s.n (b, f + o, t)) P (hn.mono (Map.sub_upd _ hj)) hp (len * z) 0 old _ _ r1 (T.get_set_same _ _ _) (by simpa using hlo) (by
                have : (len + n) * z ≤ cap * z := Nat.mul_le_mul_right z hcap
                rw [Nat.add_mul] at this
                rw [hlo, hln]; omega)
              refine ⟨.slice (some ⟨b, f + o, none⟩) (len + n) cap, w', (hrun.fits _ _ _ rfl hcap).trans ?_, _, Map.sub_upd _ hj, r2.congr ?_, ?_, ?_⟩
              · rw [add_addr, hw']; rfl
              · intro j
                dsimp only
                simp only [T.get_set]
                split <;> rfl
              · exact .slo (Map.upd_same _ _ _) (by omega) hcap hz0 (.inr (by simp))
              · refine fin (j := s.n) ?_ rfl
                intro k hk
                by_cases e : k = s.n
                · exact .inr e
                · rw [Map.upd_ne _ _ e] at hk; exact .inl hk
            · have hfc : ∃ old', VRs m old old' ∧ (Builtin.firstCells z len (.slice (some a) len cap)).run P w.drew = .ok ⟨old'⟩ w.drew := by
                obtain ⟨b', f', t', old', q1, q2, q3⟩ := (R.drew).cells (.inl hrow) hs
                rw [hm] at q1; cases q1
                refine ⟨old', q3, ?_⟩
                rcases ha with ha | ha
                · have hl0 : len = 0 := by omega
                  subst hl0
                  have : old = [] := List.length_eq_zero_iff.1 (by simpa using hlo)
                  subst this
                  cases q3
                  simp [Builtin.firstCells, loadCells, loadCellsFrom]
                · subst ha
                  simpa [Builtin.firstCells] using q2 P _ rfl
              obtain ⟨old', q3, q4⟩ := hfc
              obtain ⟨c3, more, g1, g2, g3⟩ := hrun.grows _ len cap old' rfl hcap hsmall q4
              obtain ⟨m', k1, k2, k3, k4⟩ := grown (s := ⟨s.h.set i none, s.n, [], []⟩) (old := old) (len := len) (R.kill i) hj q3 hn hlo hln g2 g1 hz0
              exact ⟨_, _, g3, m', k1, k2, k3, fin k4 rfl⟩
          · exact (run_fail h).elim
      | _ => exact (run_fail h).elim
  all_goals first | exact (run_fail h).elim | (simp [aLen] at hlen; done)

end
end Go.Ax
