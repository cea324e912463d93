/- AX: what a run reads is all that it hangs on. -/
import Derived.Test.YtefogennhgacjaaGreatAxCode
namespace Go.Ax
set_option linter.unusedSimpArgs false
set_option linter.unusedVariables false
open Go

/-- A run that reads the rows dr, and writes the rows dw: in whatever state has the same rows there, it goes alike. -/
def LocAt {β : Type} (run : St → Option (β × St)) (s : St) (b : β) (s1 : St) (dr dw : List Nat) : Prop :=
  s1.rl = dr ++ s.rl ∧ s1.wl = dw ++ s.wl ∧ s.n ≤ s1.n ∧ (∀ i, i ∉ dw → s1.h.get i = s.h.get i) ∧ (∀ i, i ∈ dw → i ∈ dr ∨ (s.n ≤ i ∧ i < s1.n)) ∧
    ∀ t : St, t.n = s.n → (∀ i, i ∈ dr → t.h.get i = s.h.get i) →
      ∃ t1, run t = some (b, t1) ∧ t1.n = s1.n ∧ t1.rl = dr ++ t.rl ∧ t1.wl = dw ++ t.wl ∧ (∀ i, i ∈ dw → t1.h.get i = s1.h.get i) ∧ (∀ i, i ∉ dw → t1.h.get i = t.h.get i)

def Loc {β : Type} (run : St → Option (β × St)) : Prop := ∀ s b s1, run s = some (b, s1) → ∃ dr dw, LocAt run s b s1 dr dw

theorem Loc.ret {β : Type} (b : β) : Loc (fun s => some (b, s)) := by
  intro s b' s1 h
  cases h
  exact ⟨[], [], rfl, rfl, Nat.le_refl _, fun _ _ => rfl, fun i hi => (by cases hi), fun t hn _ => ⟨t, rfl, hn, rfl, rfl, fun i hi => by (cases hi), fun _ _ => rfl⟩⟩

theorem Loc.none {β : Type} : Loc (fun _ => (none : Option (β × St))) := by
  intro s b s1 h; cases h

theorem LocAt.bind {β γ : Type} {run1 : St → Option (β × St)} {run2 : β → St → Option (γ × St)} {run : St → Option (γ × St)} {s s1 s2 : St} {b : β} {c : γ} {dr1 dw1 dr2 dw2 : List Nat}
    (hrun : ∀ t b t1, run1 t = some (b, t1) → run t = run2 b t1) (h1 : LocAt run1 s b s1 dr1 dw1) (h2 : LocAt (run2 b) s1 c s2 dr2 dw2) : LocAt run s c s2 (dr2 ++ dr1) (dw2 ++ dw1) := by
  obtain ⟨a1, a2, a3, a4, a5, a6⟩ := h1
  obtain ⟨b1, b2, b3, b4, b5, b6⟩ := h2
  refine ⟨by rw [b1, a1, List.append_assoc], by rw [b2, a2, List.append_assoc], Nat.le_trans a3 b3, ?_, ?_, ?_⟩
  · intro i hi
    rw [List.mem_append] at hi
    rw [b4 i (fun h => hi (.inl h)), a4 i (fun h => hi (.inr h))]
  · intro i hi
    rw [List.mem_append] at hi ⊢
    rcases hi with hi | hi
    · rcases b5 i hi with h | h
      · exact .inl (.inl h)
      · right; omega
    · rcases a5 i hi with h | h
      · exact .inl (.inr h)
      · right; omega
  · intro t hn ht
    obtain ⟨t1, c1, c2, c3, c4, c5, c6⟩ := a6 t hn (fun i hi => ht i (List.mem_append.2 (.inr hi)))
    have hag : ∀ i, i ∈ dr2 → t1.h.get i = s1.h.get i := by
      intro i hi
      by_cases hw : i ∈ dw1
      · exact c5 i hw
      · rw [c6 i hw, a4 i hw]; exact ht i (List.mem_append.2 (.inl hi))
    obtain ⟨t2, d1, d2, d3, d4, d5, d6⟩ := b6 t1 c2 hag
    refine ⟨t2, (hrun t b t1 c1).trans d1, d2, by rw [d3, c3, List.append_assoc], by rw [d4, c4, List.append_assoc], ?_, ?_⟩
    · intro i hi
      by_cases hw : i ∈ dw2
      · exact d5 i hw
      · have hi : i ∈ dw1 := by
          rcases List.mem_append.1 hi with h | h
          · exact absurd h hw
          · exact h
        rw [d6 i hw, c5 i hi, b4 i hw]
    · intro i hi
      rw [List.mem_append] at hi
      rw [d6 i (fun h => hi (.inl h)), c6 i (fun h => hi (.inr h))]

def bindS {β γ : Type} (run1 : St → Option (β × St)) (run2 : β → St → Option (γ × St)) (s : St) : Option (γ × St) := match run1 s with
  | some (b, s1) => run2 b s1
  | .none => .none

theorem Loc.bind {β γ : Type} {run1 : St → Option (β × St)} {run2 : β → St → Option (γ × St)} (h1 : Loc run1) (h2 : ∀ b, Loc (run2 b)) :
    Loc (bindS run1 run2) := by
  intro s c s2 h
  unfold bindS at h
  split at h
  · rename_i b s1 hb
    obtain ⟨dr1, dw1, g1⟩ := h1 s b s1 hb
    obtain ⟨dr2, dw2, g2⟩ := h2 b s1 c s2 h
    exact ⟨_, _, LocAt.bind (fun t b t1 ht => by unfold bindS; rw [ht]) g1 g2⟩
  · cases h

theorem A.loc {α : Type} : ∀ (x : A α), Loc x.run
  | .ret a => Loc.ret a
  | .fail => by intro s b s1 h; cases h
  | .rd i k => by
    intro s b s1 h
    obtain ⟨r, hr, h⟩ := run_rd h
    obtain ⟨dr, dw, g⟩ := A.loc (k r) _ _ _ h
    have g0 : LocAt (fun s => (match s.h.get i with | some r' => some (r', ⟨s.h, s.n, i :: s.rl, s.wl⟩) | none => none : Option (Row × St))) s r ⟨s.h, s.n, i :: s.rl, s.wl⟩ [i] [] := by
      refine ⟨rfl, rfl, Nat.le_refl _, fun _ _ => rfl, fun i hi => (by cases hi), fun t hn ht => ?_⟩
      have := ht i (by simp)
      refine ⟨⟨t.h, t.n, i :: t.rl, t.wl⟩, ?_, hn, rfl, rfl, fun i hi => (by cases hi), fun _ _ => rfl⟩
      dsimp only; rw [this, hr]
    refine ⟨_, _, LocAt.bind (run2 := fun r => (k r).run) ?_ g0 g⟩
    intro t r' t1 ht
    simp only [A.run]
    split at ht
    · rename_i r2 hr2; cases ht; rw [hr2]
    · cases ht
  | .wr i r k => by
    intro s b s1 h
    obtain ⟨⟨r0, hr⟩, h⟩ := run_wr h
    obtain ⟨dr, dw, g⟩ := A.loc k _ _ _ h
    have g0 : LocAt (fun s => (match s.h.get i with | some _ => some ((), ⟨s.h.set i (some r), s.n, i :: s.rl, i :: s.wl⟩) | none => none : Option (Unit × St))) s () ⟨s.h.set i (some r), s.n, i :: s.rl, i :: s.wl⟩ [i] [i] := by
      refine ⟨rfl, rfl, Nat.le_refl _, fun j hj => ?_, fun i hi => .inl hi, fun t hn ht => ?_⟩
      · rw [T.get_set_ne _ _ (by simpa using hj)]
      have := ht i (by simp)
      refine ⟨⟨t.h.set i (some r), t.n, i :: t.rl, i :: t.wl⟩, ?_, hn, rfl, rfl, fun j hj => ?_, fun j hj => ?_⟩
      · dsimp only; rw [this, hr]
      · have : j = i := by simpa using hj
        subst this; dsimp only; rw [T.get_set_same, T.get_set_same]
      · dsimp only; rw [T.get_set_ne _ _ (by simpa using hj)]
    refine ⟨_, _, LocAt.bind (run2 := fun _ => k.run) ?_ g0 g⟩
    intro t r' t1 ht
    simp only [A.run]
    split at ht
    · rename_i r2 hr2; cases ht; rw [hr2]
    · cases ht
  | .kl i k => by
    intro s b s1 h
    obtain ⟨⟨r0, hr⟩, h⟩ := run_kl h
    obtain ⟨dr, dw, g⟩ := A.loc k _ _ _ h
    have g0 : LocAt (fun s => (match s.h.get i with | some _ => some ((), ⟨s.h.set i none, s.n, i :: s.rl, i :: s.wl⟩) | none => none : Option (Unit × St))) s () ⟨s.h.set i none, s.n, i :: s.rl, i :: s.wl⟩ [i] [i] := by
      refine ⟨rfl, rfl, Nat.le_refl _, fun j hj => ?_, fun i hi => .inl hi, fun t hn ht => ?_⟩
      · rw [T.get_set_ne _ _ (by simpa using hj)]
      have := ht i (by simp)
      refine ⟨⟨t.h.set i none, t.n, i :: t.rl, i :: t.wl⟩, ?_, hn, rfl, rfl, fun j hj => ?_, fun j hj => ?_⟩
      · dsimp only; rw [this, hr]
      · have : j = i := by simpa using hj
        subst this; dsimp only; rw [T.get_set_same, T.get_set_same]
      · dsimp only; rw [T.get_set_ne _ _ (by simpa using hj)]
    refine ⟨_, _, LocAt.bind (run2 := fun _ => k.run) ?_ g0 g⟩
    intro t r' t1 ht
    simp only [A.run]
    split at ht
    · rename_i r2 hr2; cases ht; rw [hr2]
    · cases ht
  | .nw r k => by
    intro s b s1 h
    have h := run_nw h
    obtain ⟨dr, dw, g⟩ := A.loc (k s.n) _ _ _ h
    have g0 : LocAt (fun s => (some (s.n, ⟨s.h.set s.n (some r), s.n + 1, s.rl, s.n :: s.wl⟩) : Option (Nat × St))) s s.n ⟨s.h.set s.n (some r), s.n + 1, s.rl, s.n :: s.wl⟩ [] [s.n] := by
      refine ⟨rfl, rfl, by simp, fun j hj => ?_, fun i hi => .inr (by simp at hi; subst hi; simp), fun t hn ht => ?_⟩
      · rw [T.get_set_ne _ _ (by simpa using hj)]
      refine ⟨⟨t.h.set t.n (some r), t.n + 1, t.rl, t.n :: t.wl⟩, ?_, by simp [hn], rfl, by simp [hn], fun j hj => ?_, fun j hj => ?_⟩
      · dsimp only; rw [hn]
      · have : j = s.n := by simpa using hj
        subst this; dsimp only; rw [hn, T.get_set_same, T.get_set_same]
      · dsimp only; rw [hn, T.get_set_ne _ _ (by simpa using hj)]
    refine ⟨_, _, LocAt.bind (run2 := fun j => (k j).run) ?_ g0 g⟩
    intro t r' t1 ht
    cases ht
    rfl

end Go.Ax
