/- AX: a region that draws its order: what stands ahead of what; what an operation looks at. -/
import Derived.Test.YtefogennhgacjaaGreatAxLoc2
namespace Go.Ax
set_option linter.unusedSimpArgs false
set_option linter.unusedVariables false
open Go

/-! ### what stands ahead -/

theorem predsGo_mem {i : Nat} {acc : List (List Nat)} : ∀ {l : List Edge} {x : Nat}, x ∈ predsGo i acc l → ∃ e ∈ l, Region.binds .any e = true ∧ (x = e.on ∨ x ∈ acc[i - 1 - e.on]?.getD [])
  | [], x, h => by simp [predsGo] at h
  | e :: l, x, h => by
    unfold predsGo at h
    split at h
    · rename_i hb
      simp only [List.mem_cons, List.mem_append] at h
      rcases h with h | h | h
      · exact ⟨e, by simp, hb, .inl h⟩
      · exact ⟨e, by simp, hb, .inr h⟩
      · obtain ⟨e', he, h1, h2⟩ := predsGo_mem h
        exact ⟨e', by simp [he], h1, h2⟩
    · obtain ⟨e', he, h1, h2⟩ := predsGo_mem h
      exact ⟨e', by simp [he], h1, h2⟩

theorem predsGo_has {i : Nat} {acc : List (List Nat)} : ∀ {l : List Edge} {e : Edge}, e ∈ l → Region.binds .any e = true → e.on ∈ predsGo i acc l
  | x :: l, e, h, hb => by
    unfold predsGo
    cases h with
    | head => rw [hb]; simp
    | tail _ h =>
      have := predsGo_has (i := i) (acc := acc) h hb
      split
      · simp [this]
      · exact this

/-- The lists of what stands ahead: each out of those before it. -/
theorem preds_spec : ∀ (l : List Oper) (i : Nat) (acc : List (List Nat)), acc.length = i →
    ∃ new : List (List Nat), preds l i acc = new.reverse ++ acc ∧ new.length = l.length ∧
      ∀ k o, l[k]? = some o → ∃ acc', acc'.length = i + k ∧ new[k]? = some (predsGo (i + k) acc' o.after.toList) ∧ acc' = (new.take k).reverse ++ acc
  | [], i, acc, h => ⟨[], by simp [preds], rfl, fun k o hk => by simp at hk⟩
  | o :: l, i, acc, h => by
    obtain ⟨new, h1, h2, h3⟩ := preds_spec l (i + 1) (predsGo i acc o.after.toList :: acc) (by simp [h])
    refine ⟨predsGo i acc o.after.toList :: new, ?_, by simp [h2], ?_⟩
    · rw [preds, h1]; simp
    · intro k o' hk
      cases k with
      | zero =>
        simp at hk; subst hk
        exact ⟨acc, by simpa using h, by simp, by simp⟩
      | succ k =>
        obtain ⟨acc', a1, a2, a3⟩ := h3 k o' (by simpa using hk)
        refine ⟨acc', by omega, ?_, ?_⟩
        · rw [List.getElem?_cons_succ, a2]
          rw [show i + (k + 1) = i + 1 + k from by omega]
        · rw [a3]; simp

/-- What a region's check gives. -/
structure Stat (ops : Array Oper) (pr : Nat → List Nat) : Prop where
  lt : ∀ i, i < ops.size → ∀ x ∈ pr i, x < i
  has : ∀ i o, ops[i]? = some o → ∀ e ∈ o.after, Region.binds .any e = true → e.on ∈ pr i
  from' : ∀ i o, ops[i]? = some o → ∀ x ∈ pr i, ∃ e ∈ o.after, Region.binds .any e = true ∧ (x = e.on ∨ x ∈ pr e.on)
  apart : ∀ i j oi oj, j < i → ops[i]? = some oi → ops[j]? = some oj → j ∉ pr i → Oper.apart ops oj oi = true

theorem hasN_iff : ∀ (l : List Nat) (n : Nat), hasN l n = true ↔ n ∈ l
  | [], n => by simp [hasN]
  | x :: l, n => by
    unfold hasN
    cases hb : Nat.beq x n with
    | true => have := Nat.eq_of_beq_eq_true hb; simp [this]
    | false =>
      have := Nat.ne_of_beq_eq_false hb
      dsimp only
      rw [hasN_iff l n]
      simp [Ne.symm this]

theorem hasN_not {l : List Nat} {n : Nat} (h : hasN l n = false) : n ∉ l := by
  intro hm
  rw [(hasN_iff l n).2 hm] at h; cases h

theorem apartN_spec : ∀ {l m : List Nat}, apartN l m = true → ∀ x, x ∈ l → x ∉ m
  | [], m, _, x, hx => by cases hx
  | y :: l, m, h, x, hx => by
    unfold apartN at h
    split at h
    · cases h
    · rename_i hb
      cases hx with
      | head => exact hasN_not hb
      | tail _ hx => exact apartN_spec h x hx

theorem allLt_spec : ∀ {n : Nat} {l : List Nat}, allLt n l = true → ∀ x ∈ l, x < n
  | n, [], _, x, hx => by cases hx
  | n, y :: l, h, x, hx => by
    simp only [allLt, Bool.and_eq_true] at h
    cases hx with
    | head => simpa [Nat.blt_eq] using h.1
    | tail _ hx => exact allLt_spec h.2 x hx

theorem passOne_spec {ops : Array Oper} {e : Oper} {pr : List Nat} : ∀ {l : List (Nat × Oper)}, passOne ops e pr l = true → ∀ d ∈ l, d.1 ∉ pr → Oper.apart ops d.2 e = true
  | [], _, d, hd, _ => by cases hd
  | x :: l, h, d, hd, hn => by
    unfold passOne at h
    split at h
    · rename_i hb
      cases hd with
      | head => exact absurd ((hasN_iff _ _).1 hb) hn
      | tail _ hd => exact passOne_spec h d hd hn
    · split at h
      · rename_i ha
        cases hd with
        | head => exact ha
        | tail _ hd => exact passOne_spec h d hd hn
      · cases h

theorem passAll_spec {ops : Array Oper} : ∀ {l : List Oper} {i : Nat} {prs : List (List Nat)} {did : List (Nat × Oper)}, passAll ops l i prs did = true →
    prs.length ≥ l.length ∧ ∀ k o pr, l[k]? = some o → prs[k]? = some pr → allLt (i + k) pr = true ∧ (∀ d ∈ did, d.1 ∉ pr → Oper.apart ops d.2 o = true) ∧
      ∀ j o', j < k → l[j]? = some o' → i + j ∉ pr → Oper.apart ops o' o = true
  | [], i, prs, did, _ => ⟨by simp, fun k o pr hk => by simp at hk⟩
  | _ :: _, i, [], did, h => by simp [passAll] at h
  | o :: l, i, pr :: prs, did, h => by
    unfold passAll at h
    split at h
    · cases h
    · rename_i hlt
      split at h
      · cases h
      · rename_i hone
        obtain ⟨h1, h2⟩ := passAll_spec h
        refine ⟨by simp; exact h1, fun k o2 pr2 hk hp => ?_⟩
        cases k with
        | zero =>
          simp at hk hp; subst hk hp
          exact ⟨hlt, fun d hd hn => passOne_spec hone d hd hn, fun j o' hj => by omega⟩
        | succ k =>
          simp at hk hp
          obtain ⟨g1, g2, g3⟩ := h2 k o2 pr2 hk hp
          refine ⟨by rw [show i + (k + 1) = i + 1 + k from by omega]; exact g1, fun d hd hn => g2 d (by simp [hd]) hn, fun j o' hj hj2 hn => ?_⟩
          cases j with
          | zero => simp at hj2; subst hj2; exact g2 (i, o) (by simp) (by simpa using hn)
          | succ j =>
            simp at hj2
            exact g3 j o' (by omega) hj2 (by rw [show i + 1 + j = i + (j + 1) from by omega]; exact hn)

theorem stat_of {ops : Array Oper} {prs : List (List Nat)} (h : statOf ops = some prs) : Stat ops (fun i => prs[i]?.getD []) ∧ prs.length = ops.size := by
  unfold statOf at h
  split at h
  · rename_i hb
    rw [Bool.and_eq_true] at hb
    simp only [Option.some.injEq] at h
    obtain ⟨new, h1, h2, h3⟩ := preds_spec ops.toList 0 [] rfl
    have hnew : prs = new := by rw [← h, h1]; simp
    subst hnew
    rw [h] at hb
    obtain ⟨p1, p2⟩ := passAll_spec hb.2
    have hlen : prs.length = ops.size := by rw [h2]; simp
    have hget : ∀ i, i < ops.size → ∃ pr, prs[i]? = some pr := fun i hi => ⟨prs[i], by rw [List.getElem?_eq_getElem]⟩
    have hop : ∀ i, i < ops.size → ∃ o, ops.toList[i]? = some o := fun i hi => ⟨ops[i], by simp [hi]⟩
    have hlt : ∀ i, i < ops.size → ∀ x ∈ prs[i]?.getD [], x < i := by
      intro i hi x hx
      obtain ⟨pr, hpr⟩ := hget i hi
      obtain ⟨o, ho⟩ := hop i hi
      rw [hpr] at hx
      have := allLt_spec (p2 i o pr ho hpr).1 x hx
      omega
    have hsz : ∀ i o, ops[i]? = some o → i < ops.size := by
      intro i o ho
      exact (Array.getElem?_eq_some_iff.1 ho).1
    refine ⟨⟨hlt, ?_, ?_, ?_⟩, hlen⟩
    · intro i o ho e he hbe
      obtain ⟨acc', a1, a2, a3⟩ := h3 i o (by rw [Array.getElem?_toList]; exact ho)
      rw [a2]
      exact predsGo_has (Array.mem_toList_iff.2 he) hbe
    · intro i o ho x hx
      obtain ⟨acc', a1, a2, a3⟩ := h3 i o (by rw [Array.getElem?_toList]; exact ho)
      rw [a2] at hx
      obtain ⟨e, he, hbe, hor⟩ := predsGo_mem hx
      refine ⟨e, Array.mem_toList_iff.1 he, hbe, ?_⟩
      rcases hor with hor | hor
      · exact .inl hor
      · right
        have hlt2 : e.on < i := by
          have := predsGo_has (i := 0 + i) (acc := acc') he hbe
          refine hlt i (hsz i o ho) e.on ?_
          rw [a2]; exact this
        rw [a3] at hor
        simp only [List.append_nil, Nat.zero_add] at hor
        rw [List.getElem?_reverse (by simp; have := hsz i o ho; omega)] at hor
        rw [List.getElem?_take_of_lt (by simp; omega)] at hor
        have : (List.take i prs).length - 1 - (i - 1 - e.on) = e.on := by
          have := hsz i o ho
          rw [List.length_take]; omega
        rw [this] at hor
        exact hor
    · intro i j oi oj hij hi hj hn
      obtain ⟨pr, hpr⟩ := hget i (hsz i oi hi)
      rw [hpr] at hn
      exact (p2 i oi pr (by rw [Array.getElem?_toList]; exact hi) hpr).2.2 j oj hij (by rw [Array.getElem?_toList]; exact hj) (by simpa using hn)
  · cases h

end Go.Ax
