/- AX: the operations are those of the model. -/
import Derived.Test.YtefogennhgacjaaGreatAxMem
namespace Go.Ax
set_option linter.unusedSimpArgs false
set_option linter.unusedVariables false
open Go

theorem pv_run {α : Type} {P : Program} : ∀ {s : Sem α} {a : α}, pv P s = some a → ∀ w, s.run P w = .ok a w
  | .pure x, a, h, w => by simp [pv] at h; subst h; rfl
  | .program k, a, h, w => by simp only [Sem.run]; exact pv_run (by simpa [pv] using h) w
  | .mark _ k, a, h, w => by simp only [Sem.run]; exact pv_run (by simpa [pv] using h) w
  | .load .., _, h, _ => by simp [pv] at h
  | .store .., _, h, _ => by simp [pv] at h
  | .new .., _, h, _ => by simp [pv] at h
  | .shape .., _, h, _ => by simp [pv] at h
  | .freeze .., _, h, _ => by simp [pv] at h
  | .frozen .., _, h, _ => by simp [pv] at h
  | .getObj .., _, h, _ => by simp [pv] at h
  | .setObj .., _, h, _ => by simp [pv] at h
  | .choose .., _, h, _ => by simp [pv] at h
  | .sys .., _, h, _ => by simp [pv] at h
  | .halt .., _, h, _ => by simp [pv] at h

/-- What is known behind an operation: of the value, and of the world. -/
def Post (B : Nat) (w0 : World) (m : Map) (n : Nat) (v : Value) (s : St) (v' : Value) (w' : World) : Prop :=
  ∃ m', Sub m m' ∧ Rel B w0 m' s.h w' ∧ VR m' v v' ∧ ∀ i, m' i ≠ none → m i ≠ none ∨ (n ≤ i ∧ i < s.n)

theorem Post.same {B : Nat} {w0 : World} {m : Map} {n : Nat} {v v' : Value} {s : St} {w : World} (r : Rel B w0 m s.h w) (h : VR m v v') : Post B w0 m n v s v' w :=
  ⟨m, Sub.refl m, r, h, fun _ hi => .inl hi⟩

/-- An operation of the executor is one of the model. -/
def Sound (P : Program) (B : Nat) (w0 : World) (m : Map) (x : A Value) (y : Sem Value) : Prop :=
  ∀ (s : St) (v : Value) (s1 : St) (w : World), x.run s = some (v, s1) → Rel B w0 m s.h w → (∀ i, s.n ≤ i → i < s1.n → m i = none) →
    ∃ v' w', y.run P w = .ok v' w' ∧ Post B w0 m s.n v s1 v' w'

theorem run_ret {α : Type} {a b : α} {s s1 : St} (h : (A.ret a).run s = some (b, s1)) : b = a ∧ s1 = s := by
  simp [A.run] at h; exact ⟨h.1.symm, h.2.symm⟩
theorem run_fail {α : Type} {b : α} {s s1 : St} (h : (A.fail : A α).run s = some (b, s1)) : False := by simp [A.run] at h
theorem run_ofOpt {α : Type} {o : Option α} {b : α} {s s1 : St} (h : (A.ofOpt o).run s = some (b, s1)) : o = some b ∧ s1 = s := by
  cases o with
  | none => exact (run_fail h).elim
  | some a => obtain ⟨h1, h2⟩ := run_ret h; exact ⟨by rw [h1], h2⟩
theorem run_rd {α : Type} {i : Nat} {k : Row → A α} {b : α} {s s1 : St} (h : (A.rd i k).run s = some (b, s1)) :
    ∃ r, s.h.get i = some r ∧ (k r).run ⟨s.h, s.n, i :: s.rl, s.wl⟩ = some (b, s1) := by
  simp only [A.run] at h
  split at h
  · exact ⟨_, by assumption, h⟩
  · cases h
theorem run_wr {α : Type} {i : Nat} {r : Row} {k : A α} {b : α} {s s1 : St} (h : (A.wr i r k).run s = some (b, s1)) :
    (∃ r', s.h.get i = some r') ∧ k.run ⟨s.h.set i (some r), s.n, i :: s.rl, i :: s.wl⟩ = some (b, s1) := by
  simp only [A.run] at h
  split at h
  · exact ⟨⟨_, by assumption⟩, h⟩
  · cases h
theorem run_kl {α : Type} {i : Nat} {k : A α} {b : α} {s s1 : St} (h : (A.kl i k).run s = some (b, s1)) :
    (∃ r', s.h.get i = some r') ∧ k.run ⟨s.h.set i none, s.n, i :: s.rl, i :: s.wl⟩ = some (b, s1) := by
  simp only [A.run] at h
  split at h
  · exact ⟨⟨_, by assumption⟩, h⟩
  · cases h
theorem run_nw {α : Type} {r : Row} {k : Nat → A α} {b : α} {s s1 : St} (h : (A.nw r k).run s = some (b, s1)) :
    (k s.n).run ⟨s.h.set s.n (some r), s.n + 1, s.rl, s.n :: s.wl⟩ = some (b, s1) := h

theorem A.run_bind {α β : Type} (f : α → A β) : ∀ (x : A α) (s : St), (x.bind f).run s = match x.run s with
    | some (a, s1) => (f a).run s1
    | none => none
  | .ret a, s => by simp [A.bind, A.run]
  | .fail, s => by simp [A.bind, A.run]
  | .rd i k, s => by
    simp only [A.bind, A.run]
    split
    · exact A.run_bind f _ _
    · rfl
  | .wr i r k, s => by
    simp only [A.bind, A.run]
    split
    · exact A.run_bind f _ _
    · rfl
  | .kl i k, s => by
    simp only [A.bind, A.run]
    split
    · exact A.run_bind f _ _
    · rfl
  | .nw r k, s => by
    simp only [A.bind, A.run]
    exact A.run_bind f _ _

theorem run_bind_some {α β : Type} {x : A α} {f : α → A β} {s s2 : St} {b : β} (h : (x.bind f).run s = some (b, s2)) :
    ∃ a s1, x.run s = some (a, s1) ∧ (f a).run s1 = some (b, s2) := by
  rw [A.run_bind] at h
  split at h
  · exact ⟨_, _, by assumption, h⟩
  · cases h

theorem run_ldCells {i o n : Nat} {l : List Value} {s s1 : St} (h : (ldCells i o n).run s = some (l, s1)) :
    s1.h = s.h ∧ s1.n = s.n ∧ ∃ c, CellsAt s.h i c ∧ slab c o n = some l := by
  unfold ldCells at h
  obtain ⟨r, hr, h⟩ := run_rd h
  cases r with
  | cells c =>
    dsimp only at h
    obtain ⟨h1, h2⟩ := run_ofOpt h
    subst h2
    exact ⟨rfl, rfl, c, .inl hr, h1⟩
  | ro c =>
    dsimp only at h
    obtain ⟨h1, h2⟩ := run_ofOpt h
    subst h2
    exact ⟨rfl, rfl, c, .inr hr, h1⟩
  | _ => exact (run_fail h).elim

theorem run_stCells {i o : Nat} {vs : List Value} {s s1 : St} (h : (stCells i o vs).run s = some ((), s1)) :
    s1.n = s.n ∧ plains vs = true ∧ ∃ c c2, s.h.get i = some (.cells c) ∧ lay vs o c = some c2 ∧ s1.h = s.h.set i (some (.cells c2)) := by
  unfold stCells at h
  split at h
  · exact (run_fail h).elim
  · rename_i hp
    obtain ⟨r, hr, h⟩ := run_rd h
    cases r with
    | cells c =>
      dsimp only at h
      split at h
      · rename_i c2 hl
        obtain ⟨_, h⟩ := run_wr h
        obtain ⟨_, h⟩ := run_ret h
        subst h
        exact ⟨rfl, hp, c, c2, hr, hl, rfl⟩
      · exact (run_fail h).elim
    | _ => exact (run_fail h).elim

theorem cells_of_VR {m : Map} {v v' : Value} (h : VR m v v') : VRs m (cellsOf v) v'.cells.toList := by
  cases h
  case agg l l' hl => exact hl
  all_goals (refine .cons ?_ .nil; constructor <;> assumption)

theorem plains_mem : ∀ {l : List Value}, plains l = true → ∀ v ∈ l, plain v = true
  | [], _, v, h => by simp at h
  | x :: l, hp, v, h => by
    rw [plains_cons, Bool.and_eq_true] at hp
    cases h with
    | head => exact hp.1
    | tail _ h => exact plains_mem hp.2 v h

/-- A new row of cells. -/
theorem Rel.newCells {B : Nat} {w0 : World} {m : Map} {h : T Row} {w : World} {i : Nat} {c c' : List Value} (r : Rel B w0 m h w) (hi : m i = none) (hc : VRs m c c') (e : TypeId) (more : List Value) :
    Rel B w0 (m.upd i (w.heap.size, 0, c'.length + more.length)) (h.set i (some (.cells c))) { w with heap := w.heap.push (.cells ⟨c' ++ more⟩ e) } := by
  refine r.new hi rfl ⟨⟨c' ++ more⟩, e, 0, 0, ?_, by simp, .inl (Nat.le_refl _), by have := hc.length; omega, fun j v hj => ?_⟩
  · show (w.heap.push _)[w.heap.size]? = _
    simp
  · obtain ⟨v', hv', hr⟩ := hc.get j hj
    refine ⟨v', ?_, hr.mono (Map.sub_upd _ hi)⟩
    have hlt : j < c'.length := by
      rcases Nat.lt_or_ge j c'.length with h | h
      · exact h
      · rw [List.getElem?_eq_none h] at hv'; cases hv'
    simp only [Nat.zero_add]
    rw [← Array.getElem?_toList]
    show (c' ++ more)[j]? = _
    rw [List.getElem?_append_left hlt]
    exact hv'

theorem zeroOf_spec {P : Program} {t : TypeId} {z : Value} (h : zeroOf P t = some z) : (∀ w, (zeroValue t).run P w = .ok z w) ∧ closed z = true ∧ plains (cellsOf z) = true := by
  unfold zeroOf at h
  split at h
  · rename_i x hz
    split at h
    · rename_i hc
      cases h
      rw [Bool.and_eq_true] at hc
      exact ⟨pv_run hz, hc.1, hc.2⟩
    · cases h
  · cases h

theorem cellsOf_toList (v : Value) : v.cells.toList = cellsOf v := by
  cases v <;> rfl

theorem closedL_cells {z : Value} (h : closed z = true) : closed.closedL (cellsOf z) = true := by
  cases z <;> simp [closed, cellsOf, closed.closedL] at * <;> assumption

/-! ### the single operations -/

section
variable {P : Program} {B : Nat} {w0 : World} {m : Map}

theorem sound_alloc (e : TypeId) : Sound P B w0 m (match zeroOf P e with
    | some z => .nw (.cells (cellsOf z)) fun j => .ret (.pointer (some ⟨j, 0, none⟩))
    | none => .fail) (Instr.alloc e true (.tuple #[])) := by
  intro s v s1 w h r hn
  split at h
  · rename_i z hz
    obtain ⟨z1, z2, z3⟩ := zeroOf_spec hz
    have h := run_nw h
    obtain ⟨h1, h2⟩ := run_ret h
    subst h1 h2
    have hi : m s.n = none := hn _ (Nat.le_refl _) (by simp)
    have hr := r.newCells hi (VRs.of_closed m _ (closedL_cells z2)) e []
    refine ⟨.pointer (some ⟨w.heap.size, 0, none⟩), _, ?_, _, Map.sub_upd _ hi, hr, ?_, ?_⟩
    · simp [Instr.alloc, z1, newVar, newRow, ← cellsOf_toList]
    · exact .ptr (f := 0) (o := 0) (Map.upd_same _ _ _)
    · intro i hi'
      by_cases e : i = s.n
      · right; subst e; simp
      · left; rwa [Map.upd_ne _ _ e] at hi'
  · exact (run_fail h).elim

theorem sound_box (e : TypeId) {x x' : Value} (hx : VR m x x') : Sound P B w0 m (match plains (cellsOf x) with
      | true => .nw (.cells (cellsOf x)) fun j => .ret (.pointer (some ⟨j, 0, none⟩))
      | false => .fail) (Instr.box e x') := by
  intro s v s1 w h r hn
  split at h
  · have h := run_nw h
    obtain ⟨h1, h2⟩ := run_ret h
    subst h1 h2
    have hi : m s.n = none := hn _ (Nat.le_refl _) (by simp)
    have hr := r.newCells hi (cells_of_VR hx) e []
    refine ⟨.pointer (some ⟨w.heap.size, 0, none⟩), _, ?_, _, Map.sub_upd _ hi, hr, ?_, ?_⟩
    · simp [Instr.box, newVar, newRow]
    · exact .ptr (f := 0) (o := 0) (Map.upd_same _ _ _)
    · intro i hi'
      by_cases e : i = s.n
      · right; subst e; simp
      · left; rwa [Map.upd_ne _ _ e] at hi'
  · exact (run_fail h).elim

theorem sound_load (t : TypeId) {a a' : Value} (ha : VR m a a') : Sound P B w0 m (aLoad P t a) (Instr.loadAt t a') := by
  intro s v s1 w h r hn
  unfold aLoad at h
  split at h
  · rename_i i o
    cases ha with
    | ptr hm =>
      rename_i b f t'
      split at h
      · rename_i hag
        have hag := pv_run hag w
        split at h
        · rename_i n hsz
          have hsz := pv_run hsz w
          obtain ⟨l, s2, h1, h2⟩ := run_bind_some h
          obtain ⟨h3, h4⟩ := run_ret h2
          subst h3 h4
          obtain ⟨e1, e2, c, hg, hl⟩ := run_ldCells h1
          obtain ⟨b', f', t2, l', q1, q2, q3⟩ := r.cells hg hl
          rw [hm] at q1; cases q1
          refine ⟨.agg ⟨l'⟩, w, ?_, .same (by rw [e1]; exact r) (.agg q3)⟩
          simp [Instr.loadAt, Instr.sureAddr, loadVar, hag, hsz, q2 P w rfl]
        · exact (run_fail h).elim
      · rename_i hag
        have hag := pv_run hag w
        obtain ⟨l, s2, h1, h2⟩ := run_bind_some h
        obtain ⟨e1, e2, c, hg, hl⟩ := run_ldCells h1
        obtain ⟨b', f', t2, l', q1, q2, q3⟩ := r.cells hg hl
        rw [hm] at q1; cases q1
        split at h2
        · rename_i u
          obtain ⟨h3, h4⟩ := run_ret h2
          subst h3 h4
          cases q3 with
          | cons q4 q5 =>
            cases q5
            rename_i u'
            refine ⟨u', w, ?_, .same (by rw [e1]; exact r) q4⟩
            have := q2 P w rfl
            simp only [loadCells, loadCellsFrom, Sem.run_bind, Sem.run_pure] at this
            have ha : (⟨b, f + o, none⟩ : Addr).add 0 = ⟨b, f + o, none⟩ := by simp [Addr.add]
            rw [ha] at this
            simp only [Instr.loadAt, Instr.sureAddr, loadVar, Sem.run_bind, Sem.run_pure, Result.andThen_ok, hag, Bool.false_eq_true, if_false]
            cases hq : (load ⟨b, f + o, none⟩).run P w with
            | ok x y =>
              rw [hq] at this
              simp at this
              obtain ⟨rfl, rfl⟩ := this
              rfl
            | halt x y => rw [hq] at this; simp at this
        · exact (run_fail h2).elim
      · exact (run_fail h).elim
  · exact (run_fail h).elim

theorem plainsOfNone : True := trivial

theorem sound_store (t : TypeId) {a a' x x' : Value} (ha : VR m a a') (hx : VR m x x') {s s1 : St} {w : World} (h : (aStore P t a x).run s = some ((), s1)) (r : Rel B w0 m s.h w) :
    ∃ w', (Instr.storeAt t a' x').run P w = .ok () w' ∧ Rel B w0 m s1.h w' ∧ s1.n = s.n := by
  unfold aStore at h
  split at h
  · rename_i i o
    cases ha with
    | ptr hm =>
      rename_i b f t'
      split at h
      · rename_i n hsz
        have hsz := pv_run hsz w
        split at h
        · rename_i hlen
          have hlen := Nat.eq_of_beq_eq_true hlen
          obtain ⟨e1, e2, c, c2, hg, hl, e3⟩ := run_stCells h
          obtain ⟨w', hw', r'⟩ := Rel.stores hm P o (cells_of_VR hx) e2 0 c c2 _ _ r hg hl
          refine ⟨w', ?_, by rw [e3]; exact r', e1⟩
          have hlen' : x'.cells.size = n := by rw [← hlen, ← (cells_of_VR hx).length]; simp
          simp [Instr.storeAt, Instr.sureAddr, storeVar, hsz, hlen', hw']
        · exact (run_fail h).elim
      · exact (run_fail h).elim
  · exact (run_fail h).elim

end
end Go.Ax
