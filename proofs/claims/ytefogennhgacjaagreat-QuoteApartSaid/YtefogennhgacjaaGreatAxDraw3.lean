/- AX: a region that draws its order comes to what the text's order comes to. -/
import Derived.Test.YtefogennhgacjaaGreatAxDraw2
namespace Go.Ax
set_option linter.unusedSimpArgs false
set_option linter.unusedVariables false
open Go

section
variable {P : Program} {tab : Tab} {B : Nat} {w0 : World} {ih : Ex} {ops : Array Oper} {pr : Nat → List Nat} {F : Nat → AF} {H : Nat → T Row} {N : Nat → Nat} {V : Nat → Value} {RD EF : Nat → List Nat}

/-- The rows, where the operations in D are done. -/
def GD (H : Nat → T Row) (EF : Nat → List Nat) (D : Nat → Bool) : Nat → Nat → Option Row
  | 0, x => (H 0).get x
  | k + 1, x => if D k = true ∧ x ∈ EF k then (H (k + 1)).get x else GD H EF D k x

/-- The slots, where the operations in D are done. -/
def TD (ops : Array Oper) (F : Nat → AF) (V : Nat → Value) (D : Nat → Bool) : Nat → Nat → Value
  | 0, t => (F 0).get t
  | k + 1, t => if D k = true ∧ (ops[k]?).bind (·.dst) = some t then V k else TD ops F V D k t

def D1 (D : Nat → Bool) (i : Nat) : Nat → Bool := fun j => D j || j == i

theorem Trace.loc (T : Trace P tab ih ops pr F H N V RD EF) (hl : LocE ih) {i : Nat} {o : Oper} (ho : ops[i]? = some o) :
    LocAt (runOne P tab ih ops.toList o (F i)) ⟨H i, N i, [], []⟩ (V i) ⟨H (i + 1), N (i + 1), RD i, EF i⟩ (RD i) (EF i) := by
  obtain ⟨dr, dw, h⟩ := runOne_loc hl ops.toList o (F i) _ _ _ (T.run i o ho)
  have h1 : RD i = dr := by simpa using h.1
  have h2 : EF i = dw := by simpa using h.2.1
  subst h1 h2
  exact h

theorem getSome {i : Nat} (h : i < ops.size) : ∃ o, ops[i]? = some o := ⟨ops[i], by simp [h]⟩

theorem GD_all (T : Trace P tab ih ops pr F H N V RD EF) (hl : LocE ih) : ∀ k, k ≤ ops.size → ∀ x, GD H EF (fun _ => true) k x = (H k).get x
  | 0, _, x => rfl
  | k + 1, hk, x => by
    obtain ⟨o, ho⟩ := getSome (ops := ops) (i := k) (by omega)
    have := (T.loc hl ho).2.2.2.1
    unfold GD
    by_cases hx : x ∈ EF k
    · rw [if_pos ⟨rfl, hx⟩]
    · rw [if_neg (fun h => hx h.2), GD_all T hl k (by omega) x]
      exact (this x hx).symm

/-- What an operation reads is there as it was. -/
theorem GD_read (T : Trace P tab ih ops pr F H N V RD EF) (hl : LocE ih) {D : Nat → Bool} (hc : ∀ j, j < ops.size → D j = true → ∀ x ∈ pr j, D x = true) {i : Nat} (hi : i < ops.size) (hD : D i = false) (hp : ∀ x ∈ pr i, D x = true)
    {x : Nat} (hx : x ∈ RD i) : GD H EF D ops.size x = (H i).get x := by
  have low : ∀ k, k ≤ i → GD H EF D k x = GD H EF (fun _ => true) k x := by
    intro k
    induction k with
    | zero => intro _; rfl
    | succ k ih =>
      intro hk
      unfold GD
      cases hDk : D k with
      | true => rw [ih (by omega)]
      | false =>
        have hn : k ∉ pr i := fun h => by rw [hp k h] at hDk; cases hDk
        have := (T.pass i k (by omega) hi hn).1
        have hnx : x ∉ EF k := fun h => apartN_spec this x h hx
        rw [if_neg (by simp), if_neg (fun h => hnx h.2), ih (by omega)]
  have high : ∀ k, i ≤ k → k ≤ ops.size → GD H EF D k x = GD H EF D i x := by
    intro k
    induction k with
    | zero => intro h _; rw [show i = 0 from by omega]
    | succ k ih =>
      intro h1 h2
      rcases Nat.lt_or_ge k i with h | h
      · rw [show k + 1 = i from by omega]
      · rw [← ih h (by omega)]
        have key : ¬ (D k = true ∧ x ∈ EF k) := by
          rintro ⟨hDk, hxk⟩
          have hki : k ≠ i := fun e => by subst e; rw [hD] at hDk; cases hDk
          have hn : i ∉ pr k := fun h => by have := hc k (by omega) hDk i h; rw [hD] at this; cases this
          exact apartN_spec (T.pass k i (by omega) (by omega) hn).2.1 x hxk hx
        show (if D k = true ∧ x ∈ EF k then (H (k + 1)).get x else GD H EF D k x) = _
        rw [if_neg key]
  rw [high _ (by omega) (Nat.le_refl _), low i (Nat.le_refl _), GD_all T hl i (by omega)]

theorem GD_new (T : Trace P tab ih ops pr F H N V RD EF) {D : Nat → Bool} (hc : ∀ j, j < ops.size → D j = true → ∀ x ∈ pr j, D x = true) {i : Nat} (hi : i < ops.size) (hD : D i = false) (x : Nat) :
    GD H EF (D1 D i) ops.size x = if x ∈ EF i then (H (i + 1)).get x else GD H EF D ops.size x := by
  by_cases hx : x ∈ EF i
  · rw [if_pos hx]
    have high : ∀ k, i + 1 ≤ k → k ≤ ops.size → GD H EF (D1 D i) k x = (H (i + 1)).get x := by
      intro k
      induction k with
      | zero => intro h; omega
      | succ k ih =>
        intro h1 h2
        rcases Nat.lt_or_ge k (i + 1) with h | h
        · have : k = i := by omega
          subst this
          show (if D1 D k k = true ∧ x ∈ EF k then (H (k + 1)).get x else _) = _
          rw [if_pos ⟨by simp [D1], hx⟩]
        · have key : ¬ (D1 D i k = true ∧ x ∈ EF k) := by
            rintro ⟨hDk, hxk⟩
            have hDk : D k = true := by
              simp [D1] at hDk
              rcases hDk with h | h
              · exact h
              · omega
            have hn : i ∉ pr k := fun h => by have := hc k (by omega) hDk i h; rw [hD] at this; cases this
            exact apartN_spec (T.pass k i (by omega) (by omega) hn).2.2 x hx hxk
          show (if D1 D i k = true ∧ x ∈ EF k then (H (k + 1)).get x else GD H EF (D1 D i) k x) = _
          rw [if_neg key]
          exact ih h (by omega)
    exact high _ (by omega) (Nat.le_refl _)
  · rw [if_neg hx]
    have : ∀ k, GD H EF (D1 D i) k x = GD H EF D k x := by
      intro k
      induction k with
      | zero => rfl
      | succ k ih =>
        show (if D1 D i k = true ∧ x ∈ EF k then (H (k + 1)).get x else GD H EF (D1 D i) k x) = (if D k = true ∧ x ∈ EF k then (H (k + 1)).get x else GD H EF D k x)
        rw [ih]
        by_cases e : k = i
        · subst e
          rw [if_neg (fun h => hx h.2), if_neg (fun h => hx h.2)]
        · have : D1 D i k = D k := by simp [D1, e]
          rw [this]
    exact this _

theorem Trace.fn (T : Trace P tab ih ops pr F H N V RD EF) : ∀ k, k ≤ ops.size → (F k).n = (F 0).n
  | 0, _ => rfl
  | k + 1, hk => by
    obtain ⟨o, ho⟩ := getSome (ops := ops) (i := k) (by omega)
    rw [AF.put_n (T.put k o ho), T.fn k (by omega)]

theorem Trace.step (T : Trace P tab ih ops pr F H N V RD EF) {k : Nat} (hk : k < ops.size) (t : Nat) : (F (k + 1)).get t = if (ops[k]?).bind (·.dst) = some t then V k else (F k).get t := by
  obtain ⟨o, ho⟩ := getSome (ops := ops) (i := k) hk
  have hp := T.put k o ho
  rw [ho]
  simp only [Option.bind_some]
  obtain ⟨dst, op, type, pos, after, guard⟩ := o
  dsimp only at hp ⊢
  cases dst with
  | none =>
    simp [AF.put] at hp
    rw [← hp]; simp
  | some d =>
    rw [AF.get_put hp]
    by_cases e : t = d
    · rw [if_pos e, if_pos (by rw [e])]
    · rw [if_neg e, if_neg (by intro h; exact e (Option.some.inj h).symm)]

theorem TD_all (T : Trace P tab ih ops pr F H N V RD EF) : ∀ k, k ≤ ops.size → ∀ t, TD ops F V (fun _ => true) k t = (F k).get t
  | 0, _, t => rfl
  | k + 1, hk, t => by
    rw [T.step (by omega) t]
    unfold TD
    rw [TD_all T k (by omega) t]
    simp

theorem TD_read (T : Trace P tab ih ops pr F H N V RD EF) (S : Stat ops pr) {D : Nat → Bool} (hc : ∀ j, j < ops.size → D j = true → ∀ x ∈ pr j, D x = true) {i : Nat} {o : Oper} (ho : ops[i]? = some o) (hi : i < ops.size) (hD : D i = false)
    (hp : ∀ x ∈ pr i, D x = true) {t : Nat} (ht : t ∈ o.looksAt ops) : TD ops F V D ops.size t = (F i).get t := by
  have low : ∀ k, k ≤ i → TD ops F V D k t = TD ops F V (fun _ => true) k t := by
    intro k
    induction k with
    | zero => intro _; rfl
    | succ k ih =>
      intro hk
      unfold TD
      cases hDk : D k with
      | true => rw [ih (by omega)]
      | false =>
        have hn : k ∉ pr i := fun h => by rw [hp k h] at hDk; cases hDk
        obtain ⟨ok, hok⟩ := getSome (ops := ops) (i := k) (by omega)
        have hap := (Oper.apart_spec (S.apart i k o ok (by omega) ho hok hn)).1
        have hnd : ¬ ((ops[k]?).bind (·.dst) = some t) := by
          rw [hok]; simp only [Option.bind_some]
          intro h; exact hap t h ht
        rw [if_neg (by simp), if_neg (fun h => hnd h.2), ih (by omega)]
  have high : ∀ k, i ≤ k → k ≤ ops.size → TD ops F V D k t = TD ops F V D i t := by
    intro k
    induction k with
    | zero => intro h _; rw [show i = 0 from by omega]
    | succ k ih =>
      intro h1 h2
      rcases Nat.lt_or_ge k i with h | h
      · rw [show k + 1 = i from by omega]
      · rw [← ih h (by omega)]
        have key : ¬ (D k = true ∧ (ops[k]?).bind (·.dst) = some t) := by
          rintro ⟨hDk, hxk⟩
          have hki : k ≠ i := fun e => by subst e; rw [hD] at hDk; cases hDk
          have hn : i ∉ pr k := fun h => by have := hc k (by omega) hDk i h; rw [hD] at this; cases this
          obtain ⟨ok, hok⟩ := getSome (ops := ops) (i := k) (by omega)
          have hap := (Oper.apart_spec (S.apart k i ok o (by omega) hok ho hn)).2.2
          rw [hok] at hxk; simp only [Option.bind_some] at hxk
          exact hap t hxk ht
        show (if D k = true ∧ (ops[k]?).bind (·.dst) = some t then V k else TD ops F V D k t) = _
        rw [if_neg key]
  rw [high _ (by omega) (Nat.le_refl _), low i (Nat.le_refl _), TD_all T i (by omega)]

theorem TD_new (S : Stat ops pr) {D : Nat → Bool} (hc : ∀ j, j < ops.size → D j = true → ∀ x ∈ pr j, D x = true) {i : Nat} {o : Oper} (ho : ops[i]? = some o) (hi : i < ops.size) (hD : D i = false) (t : Nat) :
    TD ops F V (D1 D i) ops.size t = if o.dst = some t then V i else TD ops F V D ops.size t := by
  by_cases hx : o.dst = some t
  · rw [if_pos hx]
    have high : ∀ k, i + 1 ≤ k → k ≤ ops.size → TD ops F V (D1 D i) k t = V i := by
      intro k
      induction k with
      | zero => intro h; omega
      | succ k ih =>
        intro h1 h2
        rcases Nat.lt_or_ge k (i + 1) with h | h
        · have : k = i := by omega
          subst this
          show (if D1 D k k = true ∧ (ops[k]?).bind (·.dst) = some t then V k else _) = _
          rw [if_pos ⟨by simp [D1], by rw [ho]; exact hx⟩]
        · have key : ¬ (D1 D i k = true ∧ (ops[k]?).bind (·.dst) = some t) := by
            rintro ⟨hDk, hxk⟩
            have hDk : D k = true := by
              simp [D1] at hDk
              rcases hDk with h | h
              · exact h
              · omega
            have hn : i ∉ pr k := fun h => by have := hc k (by omega) hDk i h; rw [hD] at this; cases this
            obtain ⟨ok, hok⟩ := getSome (ops := ops) (i := k) (by omega)
            have hap := (Oper.apart_spec (S.apart k i ok o (by omega) hok ho hn)).2.1
            rw [hok] at hxk; simp only [Option.bind_some] at hxk
            exact hap t hx hxk
          show (if D1 D i k = true ∧ (ops[k]?).bind (·.dst) = some t then V k else TD ops F V (D1 D i) k t) = _
          rw [if_neg key]
          exact ih h (by omega)
    exact high _ (by omega) (Nat.le_refl _)
  · rw [if_neg hx]
    have : ∀ k, TD ops F V (D1 D i) k t = TD ops F V D k t := by
      intro k
      induction k with
      | zero => rfl
      | succ k ih =>
        show (if D1 D i k = true ∧ (ops[k]?).bind (·.dst) = some t then V k else TD ops F V (D1 D i) k t) = (if D k = true ∧ (ops[k]?).bind (·.dst) = some t then V k else TD ops F V D k t)
        rw [ih]
        by_cases e : k = i
        · subst e
          rw [if_neg (fun h => hx (by have := h.2; rw [ho] at this; exact this)), if_neg (fun h => hx (by have := h.2; rw [ho] at this; exact this))]
        · have : D1 D i k = D k := by simp [D1, e]
          rw [this]
    exact this _

/-! ### how many are left -/

def cnt (D : Nat → Bool) : Nat → Nat
  | 0 => 0
  | n + 1 => cnt D n + (if D n = true then 0 else 1)

theorem cnt_zero {D : Nat → Bool} : ∀ {n : Nat}, cnt D n = 0 → ∀ j, j < n → D j = true
  | 0, _, j, h => by omega
  | n + 1, h, j, hj => by
    unfold cnt at h
    rcases Nat.lt_or_ge j n with h1 | h1
    · exact cnt_zero (by omega) j h1
    · have : j = n := by omega
      subst this
      by_cases hd : D j = true
      · exact hd
      · rw [if_neg hd] at h; omega

theorem cnt_D1 {D : Nat → Bool} {i : Nat} (hD : D i = false) : ∀ (n : Nat), cnt (D1 D i) n + (if i < n then 1 else 0) = cnt D n
  | 0 => by simp [cnt]
  | n + 1 => by
    have ih := cnt_D1 hD n
    unfold cnt
    by_cases e : n = i
    · subst e
      rw [if_neg (by omega)] at ih
      rw [if_pos (by simp [D1]), if_pos (by omega), if_neg (by rw [hD]; simp)]
      omega
    · have : D1 D i n = D n := by simp [D1, e]
      rw [this]
      by_cases h : i < n
      · rw [if_pos h] at ih; rw [if_pos (show i < n + 1 by omega)]; omega
      · rw [if_neg h] at ih; rw [if_neg (show ¬ i < n + 1 by omega)]; omega

theorem cnt_ext {D D' : Nat → Bool} : ∀ {n : Nat}, (∀ j, j < n → D j = D' j) → cnt D n = cnt D' n
  | 0, _ => rfl
  | n + 1, h => by unfold cnt; rw [cnt_ext (fun j hj => h j (by omega)), h n (by omega)]

end
end Go.Ax
