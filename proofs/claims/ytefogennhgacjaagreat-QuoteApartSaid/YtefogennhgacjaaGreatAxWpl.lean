/- AX: slices: what is known of one, what is done to them. -/
import Derived.Test.YtefogennhgacjaaGreatAxWpt
namespace Go.Ax
set_option linter.unusedSimpArgs false
set_option linter.unusedVariables false
open Go

/-! ### states -/
@[simp] theorem nw_get (s : St) (r : Row) (i : Nat) : (s.nw r).h.get i = if i = s.n then some r else s.h.get i := T.get_set _ _ _ _
@[simp] theorem nw_n (s : St) (r : Row) : (s.nw r).n = s.n + 1 := rfl
@[simp] theorem rdl_h (s : St) (i : Nat) : (s.rdl i).h = s.h := rfl
@[simp] theorem rdl_n (s : St) (i : Nat) : (s.rdl i).n = s.n := rfl
@[simp] theorem wrl_get (s : St) (i : Nat) (r : Row) (j : Nat) : (s.wrl i r).h.get j = if j = i then some r else s.h.get j := T.get_set _ _ _ _
@[simp] theorem wrl_n (s : St) (i : Nat) (r : Row) : (s.wrl i r).n = s.n := rfl
@[simp] theorem kll_get (s : St) (i : Nat) (j : Nat) : (s.kll i).h.get j = if j = i then none else s.h.get j := T.get_set _ _ _ _
@[simp] theorem kll_n (s : St) (i : Nat) : (s.kll i).n = s.n := rfl

/-- What a part of a run leaves: rows that were there and aren't in W are as they were. -/
structure Quiet (W : List Nat) (s s' : St) : Prop where
  n : s.n ≤ s'.n
  keep : ∀ i, i < s.n → i ∉ W → s'.h.get i = s.h.get i
  wl : ∀ i, i ∈ s'.wl → i ∈ s.wl ∨ i ∈ W ∨ s.n ≤ i

theorem Quiet.refl (W : List Nat) (s : St) : Quiet W s s := ⟨Nat.le_refl _, fun _ _ _ => rfl, fun _ h => .inl h⟩
theorem Quiet.trans {W : List Nat} {a b c : St} (h : Quiet W a b) (k : Quiet W b c) : Quiet W a c :=
  ⟨Nat.le_trans h.n k.n, fun i hi hw => (k.keep i (Nat.lt_of_lt_of_le hi h.n) hw).trans (h.keep i hi hw), fun i hi => by
    rcases k.wl i hi with x | x | x
    · exact h.wl i x
    · exact .inr (.inl x)
    · exact .inr (.inr (Nat.le_trans h.n x))⟩
theorem Quiet.sub {W V : List Nat} {a b : St} (h : Quiet W a b) (k : ∀ i, i ∈ W → i ∈ V ∨ a.n ≤ i) : Quiet V a b :=
  ⟨h.n, fun i hi hv => h.keep i hi fun hw => by rcases k i hw with x | x; exact hv x; omega, fun i hi => by
    rcases h.wl i hi with x | x | x
    · exact .inl x
    · exact .inr (k i x)
    · exact .inr (.inr x)⟩
theorem Quiet.nil {W : List Nat} {a b : St} (h : Quiet [] a b) : Quiet W a b := h.sub fun i hi => by cases hi
theorem Quiet.nw {W : List Nat} {a b : St} (h : Quiet W a b) (r : Row) : Quiet W a (b.nw r) :=
  ⟨Nat.le_succ_of_le h.n, fun i hi hw => by rw [nw_get, if_neg (by have := h.n; omega)]; exact h.keep i hi hw, fun i hi => by
    rcases List.mem_cons.1 hi with x | x
    · subst x; exact .inr (.inr h.n)
    · exact h.wl i x⟩
theorem Quiet.rdl {W : List Nat} {a b : St} (h : Quiet W a b) (i : Nat) : Quiet W a (b.rdl i) := ⟨h.n, h.keep, h.wl⟩
theorem Quiet.wrl {W : List Nat} {a b : St} (h : Quiet W a b) (i : Nat) (r : Row) (hi : i ∈ W ∨ a.n ≤ i) : Quiet W a (b.wrl i r) :=
  ⟨h.n, fun j hj hw => by rw [wrl_get, if_neg (by rintro rfl; rcases hi with x | x; exact hw x; omega)]; exact h.keep j hj hw, fun j hj => by
    rcases List.mem_cons.1 hj with x | x
    · subst x; exact .inr hi
    · exact h.wl j x⟩
theorem Quiet.kll {W : List Nat} {a b : St} (h : Quiet W a b) (i : Nat) (hi : i ∈ W ∨ a.n ≤ i) : Quiet W a (b.kll i) :=
  ⟨h.n, fun j hj hw => by rw [kll_get, if_neg (by rintro rfl; rcases hi with x | x; exact hw x; omega)]; exact h.keep j hj hw, fun j hj => by
    rcases List.mem_cons.1 hj with x | x
    · subst x; exact .inr hi
    · exact h.wl j x⟩

/-! ### lists of cells -/
theorem takeN_append : ∀ (a b : List Value), takeN a.length (a ++ b) = some a
  | [], b => by simp [takeN]
  | x :: a, b => by simp [takeN, takeN_append a b]
theorem slab_mid {c a x b : List Value} {o n : Nat} (hc : c = a ++ (x ++ b)) (ho : o = a.length) (hn : n = x.length) : slab c o n = some x := by
  subst hc ho hn
  unfold slab
  rw [dropN_eq, List.drop_left, takeN_append]
theorem slab_head {x b : List Value} {n : Nat} (hn : n = x.length) : slab (x ++ b) 0 n = some x := slab_mid (a := []) rfl rfl hn
theorem over_append : ∀ (vs a b : List Value), a.length = vs.length → over vs (a ++ b) = some (vs ++ b)
  | [], [], b, _ => by simp [over]
  | [], _ :: _, b, h => by simp at h
  | _ :: _, [], b, h => by simp at h
  | v :: vs, x :: a, b, h => by simp [over, over_append vs a b (by simpa using h)]
theorem lay_mid : ∀ {a x b vs : List Value} {o : Nat}, o = a.length → x.length = vs.length → lay vs o (a ++ (x ++ b)) = some (a ++ (vs ++ b))
  | [], x, b, vs, o, ho, hx => by subst ho; simpa [lay] using over_append vs x b hx
  | y :: a, x, b, vs, o, ho, hx => by subst ho; simp [lay, lay_mid (a := a) (x := x) (b := b) (vs := vs) rfl hx]
theorem plains_append : ∀ (a b : List Value), plains (a ++ b) = (plains a && plains b)
  | [], b => by simp [plains]
  | x :: a, b => by simp [plains, plains_append a b, Bool.and_assoc]

/-! ### slices -/

/-- A slice value: its elements' cells lie at the head of row i. -/
def Sl (s : St) (v : Value) (sz n : Nat) (cs : List Value) (i : Nat) : Prop :=
  cs.length = n * sz ∧ ((v = .slice none 0 0 ∧ n = 0) ∨ (i < s.n ∧ (∃ sp cap, v = .slice (some ⟨i, 0, sp⟩) n cap ∧ ((sp = none ∧ cap = n) ∨ (sp = some sz ∧ cap = 0))) ∧ ∃ r, s.h.get i = some (.cells (cs ++ r))))

theorem Sl.nil (s : St) (sz i : Nat) : Sl s (.slice none 0 0) sz 0 [] i := ⟨by simp, .inl ⟨rfl, rfl⟩⟩

theorem Sl.move {s s' : St} {v : Value} {sz n i : Nat} {cs : List Value} {W : List Nat} (h : Sl s v sz n cs i) (q : Quiet W s s') (hi : i ∉ W) : Sl s' v sz n cs i := by
  refine ⟨h.1, ?_⟩
  rcases h.2 with h | ⟨h1, h2, r, h3⟩
  · exact .inl h
  · exact .inr ⟨Nat.lt_of_lt_of_le h1 q.n, h2, r, by rw [q.keep i h1 hi]; exact h3⟩

theorem Sl.plain {s : St} {v : Value} {sz n i : Nat} {cs : List Value} (h : Sl s v sz n cs i) : plain v = true := by
  rcases h.2 with ⟨rfl, _⟩ | ⟨_, ⟨_, _, rfl, _⟩, _⟩ <;> rfl

theorem Sl.aLen {s : St} {v : Value} {sz n i : Nat} {cs : List Value} (h : Sl s v sz n cs i) : aLen v = some n := by
  rcases h.2 with ⟨rfl, rfl⟩ | ⟨_, ⟨_, _, rfl, _⟩, _⟩ <;> rfl

theorem Sl.row {s : St} {v : Value} {sz n i : Nat} {cs : List Value} (h : Sl s v sz n cs i) (hn : 0 < n) : i < s.n ∧ ∃ r, s.h.get i = some (.cells (cs ++ r)) := by
  rcases h.2 with ⟨_, rfl⟩ | ⟨h1, _, h3⟩
  · omega
  · exact ⟨h1, h3⟩

section
variable {P : Program}

def okT (P : Program) (t e : TypeId) (sz : Nat) : Prop := pv P (underlying t) = some (.slice e) ∧ pv P (sizeOf e) = some sz ∧ 0 < sz ∧ ∃ ti, pv P (typeInfo e) = some ti ∧ ∀ n, n ≤ 16777216 → okElem P e sz ti.bytes n = true

theorem okT_of {t e : TypeId} {sz : Nat} {ti : TypeInfo} {z : Value} (h1 : pv P (underlying t) = some (.slice e)) (h2 : pv P (sizeOf e) = some sz) (h3 : 0 < sz) (h4 : pv P (typeInfo e) = some ti) (h5 : zeroOf P e = some z)
    (h6 : Nat.beq (cellsOf z).length sz = true) (h7 : Nat.ble ti.bytes 1048576 = true) (h8 : Nat.blt 0 ti.bytes = true) : okT P t e sz := by
  refine ⟨h1, h2, h3, ti, h4, fun n hn => ?_⟩
  unfold okElem
  rw [h5]
  simp [h6, h7, h8, hn]
  exact h3

theorem Sl.len {s : St} {v : Value} {sz n i : Nat} {cs : List Value} (h : Sl s v sz n cs i) {t e : TypeId} (T : okT P t e sz) : aBuiltin P .len [t] [v] = .ret (.int .i64 n) := by
  rcases h.2 with ⟨rfl, rfl⟩ | ⟨_, ⟨sp, cap, rfl, _⟩, _⟩
  · exact len_of T.1 _ _ _ (.inl rfl)
  · exact len_of T.1 _ _ _ (.inr (by simp))

theorem Sl.ia {s : St} {v : Value} {sz n i : Nat} {cs : List Value} (h : Sl s v sz n cs i) {t e : TypeId} (T : okT P t e sz) (j : Nat) (hj : j < n) :
    aIndexAddr P t v (.int .i64 (j : Int)) = some (.pointer (some ⟨i, j * sz, none⟩)) := by
  rcases h.2 with ⟨rfl, rfl⟩ | ⟨_, ⟨sp, cap, rfl, _⟩, _⟩
  · omega
  · rw [ia_of T.1 T.2.1 i 0 sp n cap .i64 j hj, Nat.zero_add]

/-- What is read from: a slice whose elements' cells are ys. -/
def Src (s : St) (x : Value) (sz m : Nat) (ys : List Value) : Prop :=
  ys.length = m * sz ∧ ((x = .slice none 0 0 ∧ m = 0) ∨ ∃ i o sp cap, x = .slice (some ⟨i, o, sp⟩) m cap ∧ (m = 0 ∨ i < s.n ∧ ∃ c a b, s.h.get i = some (.cells c) ∧ c = a ++ (ys ++ b) ∧ a.length = o))

theorem Sl.src {s : St} {v : Value} {sz n i : Nat} {cs : List Value} (h : Sl s v sz n cs i) : Src s v sz n cs := by
  refine ⟨h.1, ?_⟩
  rcases h.2 with ⟨rfl, rfl⟩ | ⟨h1, ⟨sp, cap, rfl, _⟩, r, h3⟩
  · exact .inl ⟨rfl, rfl⟩
  · exact .inr ⟨i, 0, sp, cap, rfl, .inr ⟨h1, _, [], r, h3, rfl, rfl⟩⟩

theorem Src.aLen {s : St} {x : Value} {sz m : Nat} {ys : List Value} (h : Src s x sz m ys) : aLen x = some m := by
  rcases h.2 with ⟨rfl, rfl⟩ | ⟨i, o, sp, cap, rfl, _⟩ <;> rfl

theorem aFirst_ok {s : St} {x : Value} {sz m : Nat} {ys : List Value} (h : Src s x sz m ys) (hz : 0 < sz) (f : List Value → A Value) (Q : Value → St → Prop)
    (hq : ∀ s', s'.h = s.h → s'.n = s.n → (∀ W, Quiet W s s') → (∀ y, y ∈ s'.rl → y ∈ s.rl ∨ y < s.n) → s'.wl = s.wl → @RunA (f ys) s' ⟨Q⟩) : @RunA ((aFirst sz m x).bind f) s ⟨Q⟩ := by
  have q0 := hq s rfl rfl (fun W => .refl _ _) (fun y hy => .inl hy) rfl
  rcases h.2 with ⟨rfl, rfl⟩ | ⟨i, o, sp, cap, rfl, h3⟩
  · have : ys = [] := List.length_eq_zero_iff.1 (by simpa using h.1)
    subst this
    exact q0
  · unfold aFirst
    dsimp only
    rw [show Nat.ble m m = true from by simp]
    dsimp only
    cases m with
    | zero =>
      have : ys = [] := List.length_eq_zero_iff.1 (by simpa using h.1)
      subst this
      exact q0
    | succ m =>
      rcases h3 with h3 | ⟨hi, c, a, b, h1, h2, h3⟩
      · omega
      rw [show Nat.beq (m + 1) 0 = false from rfl]
      dsimp only
      rw [runA_ld, h1, ldB_cells, slab_mid h2 h3.symm h.1.symm, bindO_some]
      exact hq _ rfl rfl (fun W => (Quiet.refl _ _).rdl _) (fun y hy => by rcases List.mem_cons.1 hy with e | e; (subst e; exact .inr hi); exact .inl e) rfl

theorem aAppend_nil (sz n : Nat) (new : List Value) : aAppend sz (.slice none 0 0) n new = match Nat.beq n 0 with
    | true => .ret (.slice none 0 0)
    | false => match plains new with
      | false => .fail
      | true => .nw (.cells new) fun j => .ret (openSl j 0 sz n) := rfl
theorem aAppend_cap (sz n i o len cap : Nat) (new : List Value) : aAppend sz (.slice (some ⟨i, o, none⟩) len cap) n new = match Nat.ble (len + n) cap with
    | true => match Nat.beq n 0 with
      | true => .ret (.slice (some ⟨i, o, none⟩) len cap)
      | false => (stCells i (o + len * sz) new).bind fun _ => .ret (.slice (some ⟨i, o, none⟩) (len + n) cap)
    | false => match plains new with
      | false => .fail
      | true => match Nat.beq len 0 with
        | true => .nw (.cells new) fun j => .ret (openSl j 0 sz (len + n))
        | false => (ldCells i o (len * sz)).bind fun old => .nw (.cells (old ++ new)) fun j => .ret (openSl j 0 sz (len + n)) := rfl
theorem aAppend_open (sz n i o z len : Nat) (new : List Value) : aAppend sz (.slice (some ⟨i, o, some z⟩) len 0) n new = match Nat.beq z sz, Nat.beq n 0 with
    | false, _ => .fail
    | true, true => .ret (.slice (some ⟨i, o, some z⟩) len 0)
    | true, false => .rd i fun
      | .cells c => match Nat.ble (o + (len + n) * sz) c.length with
        | true => (stCells i (o + len * sz) new).bind fun _ => .ret (openSl i o sz (len + n))
        | false => match plains new, slab c o (len * sz) with
          | true, some old => .kl i (.nw (.cells (old ++ new)) fun j => .ret (openSl j 0 sz (len + n)))
          | _, _ => .fail
      | _ => .fail := rfl

/-- append -/
theorem append_ok {s : St} {v x : Value} {sz n m i : Nat} {xs ys : List Value} {t u e : TypeId} (T : okT P t e sz) (hu : pv P (underlying u) = some (.slice e)) (h : Sl s v sz n xs i) (hx : Src s x sz m ys) (hp : plains xs = true) (hy : plains ys = true)
    (hn : n + m ≤ 16777216) {Q : Value → St → Prop} (hq : ∀ v' s' i', Sl s' v' sz (n + m) (xs ++ ys) i' → Quiet [i] s s' → (i' = i ∨ s.n ≤ i') → (v ≠ .slice none 0 0 ∨ 0 < m → v' ≠ .slice none 0 0) → (v = .slice none 0 0 → 0 < m → s.n ≤ i') → (0 < m → v' = openSl i' 0 sz (n + m)) → ((∀ y, y ∈ s'.rl → y ∈ s.rl ∨ y < s.n) ∧ (∀ y, y ∈ s'.wl → y ∈ s.wl ∨ y < s'.n)) → Q v' s') : @RunA (aBuiltin P .append [t, u] [v, x]) s ⟨Q⟩ := by
  obtain ⟨hu1, hs1, hz, ti, ht, hok⟩ := T
  have he : aBuiltin P .append [t, u] [v, x] = (aFirst sz m x).bind fun new => match Nat.beq new.length (m * sz) with
            | true => aAppend sz v m new
            | false => .fail := by
    unfold aBuiltin elemOfSlice
    dsimp only
    rw [hu1, hu]
    dsimp only
    rw [hs1, ht, hx.aLen, h.aLen]
    dsimp only
    rw [hok _ hn]
    rfl
  rw [he]
  refine aFirst_ok hx hz _ _ fun s1 e1 e2 q1 rr ew => ?_
  rw [show Nat.beq ys.length (m * sz) = true from by rw [hx.1]; simp]
  dsimp only
  have hm0 : m = 0 → ys = [] := fun e => List.length_eq_zero_iff.1 (by rw [hx.1, e]; simp)
  have h1 : Sl s1 v sz n xs i := by
    refine ⟨h.1, ?_⟩
    rw [e1, e2]; exact h.2
  have l1 := h.1
  have l2 := hx.1
  have same : m = 0 → Q v s1 := fun hm => by
    subst hm
    rw [hm0 rfl] at hq
    exact hq v s1 i (by simpa using h1) (q1 _) (.inl rfl) (fun h => by rcases h with h | h; exact h; omega) (fun _ h => by omega) (fun h => by omega) ⟨rr, fun y hy => .inl (by rw [← ew]; exact hy)⟩
  rcases h1.2 with ⟨rfl, rfl⟩ | ⟨hi, ⟨sp, cap, rfl, hsp⟩, r, hr⟩
  · have : xs = [] := List.length_eq_zero_iff.1 (by simpa using h1.1)
    subst this
    rw [aAppend_nil]
    cases m with
    | zero => exact (runA_ret _ _ _).2 (same rfl)
    | succ m =>
      rw [show Nat.beq (m + 1) 0 = false from rfl, hy]
      dsimp only
      rw [runA_nw, runA_ret]
      refine hq _ _ s1.n ⟨by simpa using l2, .inr ⟨by simp, ⟨some sz, 0, by simp [openSl], .inr ⟨rfl, rfl⟩⟩, [], by simp⟩⟩ ((q1 _).nw _) (.inr (by omega)) (fun _ => by simp [openSl]) (fun _ _ => by omega) (fun _ => by simp [openSl]) ⟨rr, (fun y hy => by
            have hn1 := e2
            simp only [St.rdl, St.wrl, St.kll, St.nw, List.mem_cons] at hy ⊢
            rcases hy with e | e
            all_goals first | (right; omega) | exact .inl (by rw [← ew]; exact e))⟩
  · rcases hsp with ⟨rfl, rfl⟩ | ⟨rfl, rfl⟩
    · rw [aAppend_cap]
      cases m with
      | zero =>
        rw [show Nat.ble (cap + 0) cap = true from by simp]
        exact (runA_ret _ _ _).2 (same rfl)
      | succ m =>
        rw [show Nat.ble (cap + (m + 1)) cap = false from by rw [← Bool.not_eq_true, Nat.ble_eq]; omega, hy]
        dsimp only
        cases cap with
        | zero =>
          have : xs = [] := List.length_eq_zero_iff.1 (by simpa using h1.1)
          subst this
          rw [show Nat.beq 0 0 = true from rfl]
          dsimp only
          rw [runA_nw, runA_ret]
          exact hq _ _ s1.n ⟨by simpa using l2, .inr ⟨by simp, ⟨some sz, 0, by simp [openSl], .inr ⟨rfl, rfl⟩⟩, [], by simp⟩⟩ ((q1 _).nw _) (.inr (by omega)) (fun _ => by simp [openSl]) (fun h _ => by cases h) (fun _ => rfl) ⟨rr, (fun y hy => by
            have hn1 := e2
            simp only [St.rdl, St.wrl, St.kll, St.nw, List.mem_cons] at hy ⊢
            rcases hy with e | e
            all_goals first | (right; omega) | exact .inl (by rw [← ew]; exact e))⟩
        | succ c =>
          rw [show Nat.beq (c + 1) 0 = false from rfl]
          dsimp only
          rw [runA_ld, hr, ldB_cells, slab_head l1.symm, bindO_some, runA_nw, runA_ret]
          exact hq _ _ s1.n ⟨by simp [l1, l2, Nat.add_mul], .inr ⟨by simp, ⟨some sz, 0, by simp [openSl], .inr ⟨rfl, rfl⟩⟩, [], by simp⟩⟩ (((q1 _).rdl _).nw _) (.inr (by omega)) (fun _ => by simp [openSl]) (fun h _ => by cases h) (fun _ => rfl) ⟨(fun y hy => by
            have hi1 : i < s.n := by rw [← e2]; exact hi
            simp only [St.rdl, St.wrl, St.kll, St.nw, List.mem_cons] at hy
            rcases hy with e | e
            all_goals first | (subst e; exact .inr hi1) | exact rr y e), (fun y hy => by
            have hn1 := e2
            simp only [St.rdl, St.wrl, St.kll, St.nw, List.mem_cons] at hy ⊢
            rcases hy with e | e
            all_goals first | (right; omega) | exact .inl (by rw [← ew]; exact e))⟩
    · rw [aAppend_open]
      rw [show Nat.beq sz sz = true from by simp]
      cases m with
      | zero => exact (runA_ret _ _ _).2 (same rfl)
      | succ m =>
        rw [show Nat.beq (m + 1) 0 = false from rfl]
        dsimp only
        rw [runA_rd, hr, bindO_some]
        dsimp only
        cases hb : Nat.ble (0 + (n + (m + 1)) * sz) (xs ++ r).length with
        | true =>
          dsimp only
          have hb := Nat.le_of_ble_eq_true hb
          have hrl : ys.length ≤ r.length := by
            rw [List.length_append, l1, Nat.add_mul] at hb
            omega
          rw [runA_st]
          refine stB_of (c := xs ++ r) (c2 := xs ++ (ys ++ r.drop ys.length)) (by simpa using hr) hy ?_ ?_
          · have := lay_mid (a := xs) (x := r.take ys.length) (b := r.drop ys.length) (vs := ys) (o := 0 + n * sz) (by omega) (by simp; omega)
            rwa [List.take_append_drop] at this
          · rw [runA_ret]
            refine hq _ _ i ⟨by simp [l1, l2, Nat.add_mul], .inr ⟨by simpa using hi, ⟨some sz, 0, by simp [openSl], .inr ⟨rfl, rfl⟩⟩, r.drop ys.length, by simp⟩⟩ ((((q1 _).rdl _).rdl _).wrl _ _ (.inl (by simp))) (.inl rfl) (fun _ => by simp [openSl]) (fun h _ => by cases h) (fun _ => rfl) ⟨(fun y hy => by
            have hi1 : i < s.n := by rw [← e2]; exact hi
            simp only [St.rdl, St.wrl, St.kll, St.nw, List.mem_cons] at hy
            rcases hy with e | e | e | e
            all_goals first | (subst e; exact .inr hi1) | exact rr y e), (fun y hy => by
            have hn1 := e2
            simp only [St.rdl, St.wrl, St.kll, St.nw, List.mem_cons] at hy ⊢
            rcases hy with e | e
            all_goals first | (right; omega) | exact .inl (by rw [← ew]; exact e))⟩
        | false =>
          dsimp only
          rw [hy, slab_head l1.symm]
          dsimp only
          rw [runA_kl, rdl_h, hr, bindO_some, runA_nw, runA_ret]
          exact hq _ _ s1.n ⟨by simp [l1, l2, Nat.add_mul], .inr ⟨by simp, ⟨some sz, 0, by simp [openSl], .inr ⟨rfl, rfl⟩⟩, [], by simp⟩⟩ ((((q1 _).rdl _).kll _ (.inl (by simp))).nw _) (.inr (by omega)) (fun _ => by simp [openSl]) (fun h _ => by cases h) (fun _ => rfl) ⟨(fun y hy => by
            have hi1 : i < s.n := by rw [← e2]; exact hi
            simp only [St.rdl, St.wrl, St.kll, St.nw, List.mem_cons] at hy
            rcases hy with e | e | e
            all_goals first | (subst e; exact .inr hi1) | exact rr y e), (fun y hy => by
            have hn1 := e2
            simp only [St.rdl, St.wrl, St.kll, St.nw, List.mem_cons] at hy ⊢
            rcases hy with e | e | e
            all_goals first | (right; omega) | exact .inl (by rw [← ew]; exact e))⟩

/-- append, where there is room. -/
theorem append_room {s : St} {x : Value} {sz n m i : Nat} {xs ys r : List Value} {t u e : TypeId} (T : okT P t e sz) (hu : pv P (underlying u) = some (.slice e)) (hr : s.h.get i = some (.cells (xs ++ r))) (hl : xs.length = n * sz)
    (hx : Src s x sz m ys) (hy : plains ys = true) (hm : ys.length ≤ r.length) (hn : n + m ≤ 16777216) {Q : Value → St → Prop}
    (hq : ∀ s', Quiet [i] s s' → s'.n = s.n → s'.h.get i = some (.cells (xs ++ (ys ++ r.drop ys.length))) → Q (openSl i 0 sz (n + m)) s') : @RunA (aBuiltin P .append [t, u] [openSl i 0 sz n, x]) s ⟨Q⟩ := by
  obtain ⟨hu1, hs1, hz, ti, ht, hok⟩ := T
  have he : aBuiltin P .append [t, u] [openSl i 0 sz n, x] = (aFirst sz m x).bind fun new => match Nat.beq new.length (m * sz) with
            | true => aAppend sz (openSl i 0 sz n) m new
            | false => .fail := by
    unfold aBuiltin elemOfSlice
    dsimp only
    rw [hu1, hu]
    dsimp only
    rw [hs1, ht, hx.aLen, show Ax.aLen (openSl i 0 sz n) = some n from rfl]
    dsimp only
    rw [hok _ hn]
    rfl
  rw [he]
  refine aFirst_ok hx hz _ _ fun s1 e1 e2 q1 rr ew => ?_
  rw [show Nat.beq ys.length (m * sz) = true from by rw [hx.1]; simp]
  dsimp only
  rw [show openSl i 0 sz n = .slice (some ⟨i, 0, some sz⟩) n 0 from rfl, aAppend_open]
  rw [show Nat.beq sz sz = true from by simp]
  have l2 := hx.1
  cases m with
  | zero =>
    have : ys = [] := List.length_eq_zero_iff.1 (by simpa using l2)
    subst this
    exact (runA_ret _ _ _).2 (hq _ (q1 _) e2 (by rw [e1]; simpa using hr))
  | succ m =>
    rw [show Nat.beq (m + 1) 0 = false from rfl]
    dsimp only
    rw [runA_rd, e1, hr, bindO_some]
    dsimp only
    rw [show Nat.ble (0 + (n + (m + 1)) * sz) (xs ++ r).length = true from by
      rw [Nat.ble_eq, List.length_append, hl, Nat.add_mul]; omega]
    dsimp only
    rw [runA_st]
    refine stB_of (c := xs ++ r) (c2 := xs ++ (ys ++ r.drop ys.length)) (by simpa [e1] using hr) hy ?_ ?_
    · have := lay_mid (a := xs) (x := r.take ys.length) (b := r.drop ys.length) (vs := ys) (o := 0 + n * sz) (by omega) (by simp; omega)
      rwa [List.take_append_drop] at this
    · rw [runA_ret]
      exact hq _ ((((q1 _).rdl _).rdl _).wrl _ _ (.inl (by simp))) (by simpa using e2) (by simp)

theorem rep_len (l : List Value) : ∀ n, (rep l n).length = n * l.length
  | 0 => by simp [rep]
  | n + 1 => by simp [rep, rep_len l n, Nat.add_mul]; omega
theorem plains_rep {l : List Value} (h : plains l = true) : ∀ n, plains (rep l n) = true
  | 0 => rfl
  | n + 1 => by simp [rep, plains_append, h, plains_rep h n]

/-- clear -/
theorem clear_ok {s : St} {sz i o k cap : Nat} {sp : Option Nat} {a x b : List Value} {t e : TypeId} (T : okT P t e sz) {z : Value} (hz : zeroOf P e = some z) (hzl : (cellsOf z).length = sz) (hzp : plains (cellsOf z) = true)
    (hr : s.h.get i = some (.cells (a ++ (x ++ b)))) (ho : a.length = o) (hx : x.length = k * sz) {Q : Value → St → Prop}
    (hq : ∀ s' y, Quiet [i] s s' → s'.n = s.n → s'.h.get i = some (.cells (a ++ (y ++ b))) → y.length = x.length → Q (.tuple #[]) s') : @RunA (aBuiltin P .clear [t] [.slice (some ⟨i, o, sp⟩) k cap]) s ⟨Q⟩ := by
  unfold aBuiltin
  dsimp only
  rw [T.1]
  dsimp only
  cases k with
  | zero => exact (runA_ret _ _ _).2 (hq s x (.refl _ _) rfl hr rfl)
  | succ k =>
    dsimp only
    rw [show elemOfSlice P t = some e from by unfold elemOfSlice; rw [T.1]]
    dsimp only
    rw [hz]
    dsimp only
    rw [runA_st]
    have hl : (rep (cellsOf z) (k + 1)).length = x.length := by rw [rep_len, hzl, hx]
    refine stB_of hr (plains_rep hzp _) (lay_mid ho.symm hl.symm) ?_
    rw [runA_ret]
    exact hq _ _ (((Quiet.refl _ _).rdl _).wrl _ _ (.inl (by simp))) rfl (by simp) hl

/-! ### parts of slices -/
theorem bnd_nat (j lim : Nat) (d : Nat) (k : IntKind) (h : j ≤ lim) : bnd (some (.int k (j : Int))) d lim = some j := by
  simp only [bnd]
  have : (decide ((0 : Int) ≤ (j : Int)) && decide ((j : Int) ≤ (lim : Int))) = true := by
    simp only [Bool.and_eq_true, decide_eq_true_eq]; omega
  rw [this]; simp
theorem bnd_none (d lim : Nat) : bnd none d lim = some d := rfl

theorem aSlice0_open (sz i o z len : Nat) (lo hi : Option Value) : aSlice0 sz (.slice (some ⟨i, o, some z⟩) len 0) lo hi none = match Nat.beq z sz with
    | false => none
    | true => match bnd hi len len with
        | none => none
        | some h => match bnd lo 0 h with
          | none => none
          | some l => some (openSl i (o + l * sz) sz (h - l)) := rfl
theorem aSlice_open_hi (sz i o n h : Nat) (hh : h ≤ n) : aSlice sz (openSl i o sz n) none (some (.int .i64 (h : Int))) none = some (openSl i o sz h) := by
  unfold aSlice
  dsimp only
  rw [show openSl i o sz n = .slice (some ⟨i, o, some sz⟩) n 0 from rfl, aSlice0_open, show Nat.beq sz sz = true from by simp]
  dsimp only
  rw [bnd_nat h n n .i64 hh]
  dsimp only
  rw [bnd_none]
  simp [openSl]
theorem aSlice_open_lo (sz i o n l : Nat) (hl : l ≤ n) : aSlice sz (openSl i o sz n) (some (.int .i64 (l : Int))) none none = some (openSl i (o + l * sz) sz (n - l)) := by
  unfold aSlice
  dsimp only
  rw [show openSl i o sz n = .slice (some ⟨i, o, some sz⟩) n 0 from rfl, aSlice0_open, show Nat.beq sz sz = true from by simp]
  dsimp only
  rw [bnd_none]
  dsimp only
  rw [bnd_nat l n 0 .i64 hl]
theorem aSlice_cap_hi (sz i n h : Nat) (hh : h ≤ n) : aSlice sz (.slice (some ⟨i, 0, none⟩) n n) none (some (.int .i64 (h : Int))) none = some (.slice (some ⟨i, 0, none⟩) h n) := by
  unfold aSlice aSlice0
  dsimp only
  rw [bnd_none]
  dsimp only
  rw [bnd_nat h n n .i64 hh]
  dsimp only
  rw [bnd_none]
  dsimp only
  cases hb : Nat.beq n 0 <;> simp
theorem aSlice_cap_lo (sz i n l : Nat) (hl : l ≤ n) : aSlice sz (.slice (some ⟨i, 0, none⟩) n n) (some (.int .i64 (l : Int))) none none = some (.slice (some ⟨i, (match Nat.beq n l with | true => 0 | false => 0 + l * sz), none⟩) (n - l) (n - l)) := by
  unfold aSlice aSlice0
  dsimp only
  rw [bnd_none]
  dsimp only
  rw [bnd_none]
  dsimp only
  rw [bnd_nat l n 0 .i64 hl]
  rfl

theorem Sl.hi {s : St} {v : Value} {sz n i : Nat} {cs : List Value} (h : Sl s v sz n cs i) (j : Nat) (hj : j ≤ n) : ∃ x, aSlice sz v none (some (.int .i64 (j : Int))) none = some x ∧ Src s x sz j (cs.take (j * sz)) := by
  have hlen : (cs.take (j * sz)).length = j * sz := by
    rw [List.length_take, h.1]
    exact Nat.min_eq_left (Nat.mul_le_mul_right _ hj)
  rcases h.2 with ⟨rfl, rfl⟩ | ⟨h1, ⟨sp, cap, rfl, hsp⟩, r, h3⟩
  · obtain rfl : j = 0 := by omega
    exact ⟨.slice none 0 0, rfl, hlen, .inl ⟨rfl, rfl⟩⟩
  · have hc : cs ++ r = [] ++ (cs.take (j * sz) ++ (cs.drop (j * sz) ++ r)) := by rw [← List.append_assoc (cs.take _), List.take_append_drop]; rfl
    rcases hsp with ⟨rfl, rfl⟩ | ⟨rfl, rfl⟩
    · exact ⟨_, aSlice_cap_hi sz i cap j hj, hlen, .inr ⟨i, 0, none, cap, rfl, .inr ⟨h1, _, [], _, h3, hc, rfl⟩⟩⟩
    · exact ⟨_, aSlice_open_hi sz i 0 n j hj, hlen, .inr ⟨i, 0, some sz, 0, rfl, .inr ⟨h1, _, [], _, h3, hc, rfl⟩⟩⟩

theorem Sl.lo {s : St} {v : Value} {sz n i : Nat} {cs : List Value} (h : Sl s v sz n cs i) (j : Nat) (hj : j ≤ n) : ∃ x, aSlice sz v (some (.int .i64 (j : Int))) none none = some x ∧ Src s x sz (n - j) (cs.drop (j * sz)) := by
  have hlen : (cs.drop (j * sz)).length = (n - j) * sz := by
    rw [List.length_drop, h.1, Nat.sub_mul]
  rcases h.2 with ⟨rfl, rfl⟩ | ⟨h1, ⟨sp, cap, rfl, hsp⟩, r, h3⟩
  · obtain rfl : j = 0 := by omega
    exact ⟨.slice none 0 0, rfl, hlen, .inl ⟨rfl, rfl⟩⟩
  · have hc : cs ++ r = cs.take (j * sz) ++ (cs.drop (j * sz) ++ r) := by rw [← List.append_assoc, List.take_append_drop]
    have ha : (cs.take (j * sz)).length = j * sz := by
      rw [List.length_take, h.1]
      exact Nat.min_eq_left (Nat.mul_le_mul_right _ hj)
    rcases hsp with ⟨rfl, rfl⟩ | ⟨rfl, rfl⟩
    · refine ⟨_, aSlice_cap_lo sz i cap j hj, hlen, .inr ⟨i, _, none, cap - j, rfl, ?_⟩⟩
      by_cases e : cap = j
      · left; omega
      · right
        have : Nat.beq cap j = false := by
          cases hb : Nat.beq cap j
          · rfl
          · exact absurd (Nat.eq_of_beq_eq_true hb) e
        rw [this]
        exact ⟨h1, _, _, _, h3, hc, by rw [ha]; exact (Nat.zero_add _).symm⟩
    · exact ⟨_, aSlice_open_lo sz i 0 n j hj, hlen, .inr ⟨i, _, some sz, 0, rfl, .inr ⟨h1, _, _, _, h3, hc, by rw [ha]; omega⟩⟩⟩

theorem slcB_of {s : St} {v : Value} {lo hi mx : Option Value} {sz : Nat} {t e : TypeId} {x : Value} (T : okT P t e sz) (hv : ∀ st, v ≠ .string st) (h : aSlice sz v lo hi mx = some x) {Q : Value → St → Prop} (q : Q x s) : @SlcB P t v lo hi mx s ⟨Q⟩ := by
  unfold SlcB
  split
  · rename_i st; exact absurd rfl (hv st)
  · rw [show elemOfSlice P t = some e from by unfold elemOfSlice; rw [T.1]]
    dsimp only
    rw [T.2.1]
    dsimp only
    rw [h]
    dsimp only
    rw [runA_ret]; exact q

theorem Sl.nostr {s : St} {v : Value} {sz n i : Nat} {cs : List Value} (h : Sl s v sz n cs i) : ∀ st, v ≠ .string st := by
  rcases h.2 with ⟨rfl, _⟩ | ⟨_, ⟨_, _, rfl, _⟩, _⟩ <;> intro st e <;> cases e

/-- A part past the length, of a slice with a known row. -/
theorem slcB_far {s : St} {i sz n l h : Nat} {c : List Value} {t e : TypeId} (T : okT P t e sz) (hr : s.h.get i = some (.cells c)) (hn : n < h) (hc : h * sz ≤ c.length) (hl : l ≤ h) {Q : Value → St → Prop}
    (q : Q (openSl i (l * sz) sz (h - l)) (s.rdl i)) : @SlcB P t (openSl i 0 sz n) (some (.int .i64 (l : Int))) (some (.int .i64 (h : Int))) none s ⟨Q⟩ := by
  unfold SlcB
  rw [show elemOfSlice P t = some e from by unfold elemOfSlice; rw [T.1]]
  dsimp only [openSl]
  rw [T.2.1]
  dsimp only
  have h1 : aSlice sz (.slice (some ⟨i, 0, some sz⟩) n 0) (some (.int .i64 (l : Int))) (some (.int .i64 (h : Int))) none = none := by
    unfold aSlice
    dsimp only
    rw [aSlice0_open, show Nat.beq sz sz = true from by simp]
    dsimp only
    have : bnd (some (.int .i64 (h : Int))) n n = none := by
      simp only [bnd]
      have : (decide ((0 : Int) ≤ (h : Int)) && decide ((h : Int) ≤ (n : Int))) = false := by
        rw [← Bool.not_eq_true]
        simp only [Bool.and_eq_true, decide_eq_true_eq]; omega
      rw [this]
    rw [this]
  rw [h1]
  dsimp only
  rw [show aSliceFar sz (.slice (some ⟨i, 0, some sz⟩) n 0) (some (.int .i64 (l : Int))) (some (.int .i64 (h : Int))) = (match Nat.beq sz sz && Nat.blt 0 sz && decide ((0 : Int) ≤ (h : Int)) with
    | false => .fail
    | true => .rd i fun
      | .cells c => match Nat.ble n (h : Int).toNat && Nat.ble (0 + (h : Int).toNat * sz) c.length with
        | false => .fail
        | true => match bnd (some (.int .i64 (l : Int))) 0 (h : Int).toNat with
          | none => .fail
          | some l => .ret (openSl i (0 + l * sz) sz ((h : Int).toNat - l))
      | _ => .fail) from rfl]
  rw [show (Nat.beq sz sz && Nat.blt 0 sz && decide ((0 : Int) ≤ (h : Int))) = true from by
    have := T.2.2.1
    simp [Nat.blt_eq, this]]
  dsimp only
  rw [runA_rd, hr, bindO_some]
  dsimp only
  rw [show (Nat.ble n (h : Int).toNat && Nat.ble (0 + (h : Int).toNat * sz) c.length) = true from by
    rw [Bool.and_eq_true, Nat.ble_eq, Nat.ble_eq]; constructor
    · simp; omega
    · simpa using hc]
  dsimp only
  rw [show (h : Int).toNat = h from by simp, bnd_nat l h 0 .i64 hl]
  dsimp only
  rw [runA_ret, Nat.zero_add]
  exact q

/-- A slice literal of one element. -/
theorem buildSlice1_ok {s : St} {t e : TypeId} {sz : Nat} {v : Value} {cs : List Value} (T : okT P t e sz) {z : Value} (hz : zeroOf P e = some z) (hzl : (cellsOf z).length = sz) (hv : cellsOf v = cs) (hl : cs.length = sz) (hp : plains cs = true)
    (hsz : sz ≤ 16777216) {Q : Value → St → Prop} (hq : ∀ v' s', Sl s' v' sz 1 cs s.n → Quiet [] s s' → s'.n = s.n + 1 → s'.rl = s.rl ∧ s'.wl = s.n :: s.wl → Q v' s') : @RunA (aBuildSlice P t 1 [(0, v)]) s ⟨Q⟩ := by
  unfold aBuildSlice elemOfSlice
  rw [T.1]
  dsimp only
  rw [T.2.1, hz]
  dsimp only
  have hf : fillA (fun i => some (i * sz, sz)) (rep (cellsOf z) 1) [(0, v)] = some cs := by
    simp only [fillA, hv, hl, hp, rep, List.append_nil]
    have := lay_mid (a := []) (x := cellsOf z) (b := []) (vs := cs) (o := 0) rfl (by rw [hzl, hl])
    simp at this
    simp [this]
  rw [hf, hzl]
  rw [show Nat.ble (1 * sz) 16777216 = true from by simp; omega]
  dsimp only
  rw [show Nat.beq sz sz = true from by simp]
  dsimp only
  rw [runA_nw, runA_ret]
  exact hq _ _ ⟨by omega, .inr ⟨by simp, ⟨none, 1, rfl, .inl ⟨rfl, rfl⟩⟩, [], by simp⟩⟩ ((Quiet.refl _ _).nw _) rfl ⟨rfl, rfl⟩

theorem buildSlice0_ok {s : St} {t e : TypeId} {sz : Nat} (T : okT P t e sz) {z : Value} (hz : zeroOf P e = some z) (hzl : (cellsOf z).length = sz)
    {Q : Value → St → Prop} (hq : ∀ v' s', Sl s' v' sz 0 [] s.n → v' ≠ .slice none 0 0 → Quiet [] s s' → s'.n = s.n + 1 → s'.rl = s.rl ∧ s'.wl = s.n :: s.wl → Q v' s') : @RunA (aBuildSlice P t 0 []) s ⟨Q⟩ := by
  unfold aBuildSlice elemOfSlice
  rw [T.1]
  dsimp only
  rw [T.2.1, hz]
  dsimp only
  rw [show Nat.ble (0 * sz) 16777216 = true from by simp]
  simp only [fillA, rep]
  rw [hzl, show Nat.beq sz sz = true from by simp]
  dsimp only
  rw [runA_nw, runA_ret]
  exact hq _ _ ⟨by simp, .inr ⟨by simp, ⟨none, 0, rfl, .inl ⟨rfl, rfl⟩⟩, [], by simp⟩⟩ (by simp) ((Quiet.refl _ _).nw _) rfl ⟨rfl, rfl⟩
end
end Go.Ax
