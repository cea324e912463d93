/- AX: the operations are those of the model: comparisons, sums, structs, new slices. -/
import Derived.Test.YtefogennhgacjaaGreatAxSound5
namespace Go.Ax
set_option linter.unusedSimpArgs false
set_option linter.unusedVariables false
open Go

section
variable {P : Program} {B : Nat} {w0 : World} {m : Map}

theorem kindNo_inj {k k' : IntKind} (h : kindNo k = kindNo k') : k = k' := by cases k <;> cases k' <;> first | rfl | cases h

theorem sound_intOp {op : BinOp} {t : TypeId} {x y : Operand} {k : IntKind} {a b : Int} {v : Value} (h : intOp op k a b = some v) (w : World) :
    (do eqGuard op t x y (.int k a) (.int k b); binOp op t (.int k a) (.int k b) : Sem Value).run P w = .ok v w ∧ closed v = true := by
  cases op <;> simp only [intOp, iLe_eq, iLt_eq] at h <;> first
    | (cases h; done)
    | (cases h; simp [eqGuard, binOp, Op.intArith, Op.intCmp, closed]; done)
    | (cases h; refine ⟨?_, rfl⟩; simp [eqGuard, binOp, Op.intCmp]; rfl)

theorem sound_binSlow {op : BinOp} {t : TypeId} {x y : Operand} {a a' b b' v : Value} (ha : VR m a a') (hb : VR m b b') (h : aBinSlow P op t x y a b = some v) (w : World) :
    ∃ v', (do eqGuard op t x y a' b'; binOp op t a' b' : Sem Value).run P w = .ok v' w ∧ VR m v v' := by
  unfold aBinSlow at h
  split at h
  · rename_i hc
    rw [Bool.and_eq_true] at hc
    obtain ⟨h1, h2⟩ := closed_ofPv h
    rw [VR.eq_of_closed hc.1 ha, VR.eq_of_closed hc.2 hb]
    exact ⟨v, pv_run h1 w, VR.of_closed m v h2⟩
  · split at h
    · cases h
    · rename_i d hd
      have hd := pv_run hd w
      split at h
      · split at h
        · rename_i r hr
          cases h
          refine ⟨.bool r, ?_, .bool _⟩
          have h1 := guard_nil (op := .eql) (t := t) (x := x) (y := y) (P := P) ha hb hr w
          have h2 := sound_eqNil (n := 9999) ha hb hr w hd
          have h3 : binOp .eql t a' b' = (do pure (.bool (← Op.equal t a' b')) : Sem Value) := by
            unfold eqNil at hr
            split at hr
            all_goals first
              | (cases hr; done)
              | (cases ha <;> cases hb <;> rfl)
          simp only [Sem.run_bind, h1, h3, Result.andThen_ok, Op.equal, Op.maxDepth]
          rw [h2]
          rfl
        · cases h
      · split at h
        · rename_i r hr
          cases h
          refine ⟨.bool (!r), ?_, .bool _⟩
          have h1 := guard_nil (op := .neq) (t := t) (x := x) (y := y) (P := P) ha hb hr w
          have h2 := sound_eqNil (n := 9999) ha hb hr w hd
          have h3 : binOp .neq t a' b' = (do pure (.bool (!(← Op.equal t a' b'))) : Sem Value) := by
            unfold eqNil at hr
            split at hr
            all_goals first
              | (cases hr; done)
              | (cases ha <;> cases hb <;> rfl)
          simp only [Sem.run_bind, h1, h3, Result.andThen_ok, Op.equal, Op.maxDepth]
          rw [h2]
          rfl
        · cases h
      · cases h

theorem sound_bin {op : BinOp} {t : TypeId} {x y : Operand} {a a' b b' v : Value} (ha : VR m a a') (hb : VR m b b') (h : aBin P op t x y a b = some v) (w : World) :
    ∃ v', (do eqGuard op t x y a' b'; binOp op t a' b' : Sem Value).run P w = .ok v' w ∧ VR m v v' := by
  unfold aBin at h
  split at h
  · rename_i k n
    split at h
    · rename_i k' n'
      unfold aBinInt at h
      split at h
      · rename_i hk
        have hk := kindNo_inj (Nat.eq_of_beq_eq_true hk)
        subst hk
        split at h
        · rename_i v' hv
          cases h
          cases ha; cases hb
          obtain ⟨h1, h2⟩ := sound_intOp (P := P) (t := t) (x := x) (y := y) hv w
          exact ⟨_, h1, VR.of_closed m _ h2⟩
        · exact sound_binSlow ha hb h w
      · exact sound_binSlow ha hb h w
    · exact sound_binSlow ha hb h w
  · exact sound_binSlow ha hb h w

theorem sound_nilCheck {x x' v : Value} (hx : VR m x x') (h : aNilCheck x = some v) : v = x ∧ (x' ≠ .pointer none) ∧ x' ≠ .nilIface ∧ x' ≠ .nilFunc ∧ ∀ n a b, x' ≠ .func (.method n) a b := by
  unfold aNilCheck at h
  split at h
  · cases h; cases hx; exact ⟨rfl, by simp, by simp, by simp, by simp⟩
  · cases h; cases hx; exact ⟨rfl, by simp, by simp, by simp, by simp⟩
  · cases h; cases hx; exact ⟨rfl, by simp, by simp, by simp, by simp⟩
  · cases h

/-! ### structs and arrays -/

/-- The model's laying of a part's cells. -/
theorem foldl_set (vs : List Value) : ∀ (k off : Nat) (a : Array Value),
    ((vs.zipIdx k).foldl (fun (cs : Array Value) (x : Value × Nat) => cs.setIfInBounds (off + x.2) x.1) a).toList = (vs.zipIdx k).foldl (fun (l : List Value) (x : Value × Nat) => l.set (off + x.2) x.1) a.toList := by
  induction vs with
  | nil => intro k off a; simp
  | cons v vs ih =>
    intro k off a
    simp only [List.zipIdx_cons, List.foldl_cons]
    rw [ih]
    simp

theorem lay_foldl : ∀ (vs : List Value) (k off : Nat) (c c2 : List Value), lay vs (off + k) c = some c2 → (vs.zipIdx k).foldl (fun (l : List Value) (x : Value × Nat) => l.set (off + x.2) x.1) c = c2
  | [], k, off, c, c2, h => by simp [lay_nil _ _ _ h]
  | v :: vs, k, off, c, c2, h => by
    obtain ⟨h1, h2⟩ := lay_cons _ _ _ _ _ h
    simp only [List.zipIdx_cons, List.foldl_cons]
    exact lay_foldl vs (k + 1) off _ _ (by rw [← Nat.add_assoc]; exact h2)

theorem VRs.set {l l' : List Value} (h : VRs m l l') (i : Nat) {v v' : Value} (hv : VR m v v') : VRs m (l.set i v) (l'.set i v') := by
  refine VRs.of_get (by simp [h.length]) fun j x hx => ?_
  rw [List.getElem?_set] at hx
  split at hx
  · rename_i e
    subst e
    split at hx
    · rename_i hlt
      cases hx
      refine ⟨v', ?_, hv⟩
      rw [List.getElem?_set, if_pos rfl, if_pos (by rw [h.length]; exact hlt)]
    · cases hx
  · rename_i e
    obtain ⟨x', hx', hr⟩ := h.get _ hx
    exact ⟨x', by rw [List.getElem?_set, if_neg e]; exact hx', hr⟩

theorem VRs.lay : ∀ {vs vs' : List Value} (o : Nat) {c c' c2 : List Value}, VRs m vs vs' → VRs m c c' → Ax.lay vs o c = some c2 → ∃ c2', Ax.lay vs' o c' = some c2' ∧ VRs m c2 c2'
  | _, _, 0, c, c', c2, .nil, hc, h => by
    have := lay_nil _ _ _ h; subst this
    exact ⟨c', rfl, hc⟩
  | _, _, o + 1, _, _, c2, .nil, .nil, h => by simp [Ax.lay] at h
  | _, _, o + 1, _, _, c2, .nil, .cons hx hc, h => by
    have := lay_nil _ _ _ h; subst this
    simp only [Ax.lay] at h ⊢
    split at h
    · rename_i r hr
      obtain ⟨r', hr', hrr⟩ := VRs.lay o (.nil) hc hr
      rw [hr']
      cases h
      exact ⟨_, rfl, .cons hx hrr⟩
    · cases h
  | v :: vs, v' :: vs', 0, _, _, c2, .cons hv hvs, .nil, h => by simp [Ax.lay, over] at h
  | v :: vs, v' :: vs', 0, x :: c, x' :: c', c2, .cons hv hvs, .cons hx hc, h => by
    have h' := lay_cons _ _ _ _ _ h
    simp only [Ax.lay, over] at h ⊢
    split at h
    · rename_i r hr
      obtain ⟨r', hr', hrr⟩ := VRs.lay (vs := vs) 0 hvs hc (by simpa [Ax.lay] using hr)
      simp only [Ax.lay] at hr'
      rw [hr']
      cases h
      exact ⟨_, rfl, .cons hv hrr⟩
    · cases h
  | _ :: _, _ :: _, o + 1, _, _, c2, .cons hv hvs, .nil, h => by simp [Ax.lay] at h
  | v :: vs, v' :: vs', o + 1, x :: c, x' :: c', c2, .cons hv hvs, .cons hx hc, h => by
    simp only [Ax.lay] at h ⊢
    split at h
    · rename_i r hr
      obtain ⟨r', hr', hrr⟩ := VRs.lay o (.cons hv hvs) hc hr
      rw [hr']
      cases h
      exact ⟨_, rfl, .cons hx hrr⟩
    · cases h

inductive Parts (m : Map) : List (Nat × Value) → List (Nat × Value) → Prop
  | nil : Parts m [] []
  | cons (i : Nat) {v v' : Value} {l l' : List (Nat × Value)} (h : VR m v v') (hl : Parts m l l') : Parts m ((i, v) :: l) ((i, v') :: l')

theorem lay_le : ∀ (vs : List Value) (o : Nat) (c c2 : List Value), Ax.lay vs o c = some c2 → o + vs.length ≤ c.length
  | [], 0, c, c2, h => by simp
  | [], o + 1, [], c2, h => by simp [Ax.lay] at h
  | [], o + 1, x :: c, c2, h => by
    simp only [Ax.lay] at h
    split at h
    · rename_i r hr; have := lay_le [] o c r hr; simp at this ⊢; omega
    · cases h
  | v :: vs, o, c, c2, h => by
    obtain ⟨h1, h2⟩ := lay_cons _ _ _ _ _ h
    have := lay_le vs (o + 1) _ _ h2
    simp at this ⊢
    omega

theorem sound_fill {place : Nat → Option (Nat × Nat)} : ∀ {parts parts' : List (Nat × Value)} {c c' c2 : List Value}, Parts m parts parts' → VRs m c c' → fillA place c parts = some c2 →
    ∃ c2', Instr.fill place ⟨c'⟩ parts' = some ⟨c2'⟩ ∧ VRs m c2 c2'
  | _, _, c, c', c2, .nil, hc, h => by
    simp [fillA] at h; subst h
    exact ⟨c', rfl, hc⟩
  | _, _, c, c', c2, @Parts.cons _ i v v' l l' hv hl, hc, h => by
    unfold fillA at h
    split at h
    · cases h
    · rename_i off size hpl
      split at h
      · cases h
      · rename_i hb
        rw [Bool.and_eq_true] at hb
        have hlen := Nat.eq_of_beq_eq_true hb.1
        split at h
        · rename_i c1 hl1
          obtain ⟨c1', h1, h2⟩ := VRs.lay off (cells_of_VR hv) hc hl1
          obtain ⟨c2', h3, h4⟩ := sound_fill hl h2 h
          refine ⟨c2', ?_, h4⟩
          have hle := lay_le _ _ _ _ h1
          have hsz : v'.cells.size = size := by rw [← hlen, ← (cells_of_VR hv).length]; simp
          unfold Instr.fill
          rw [hpl]
          dsimp only
          rw [if_neg]
          · rw [← h3]
            congr 1
            apply Array.ext'
            rw [← Array.foldl_toList]
            simp only [Array.toList_zipIdx]
            rw [foldl_set]
            exact lay_foldl _ 0 off _ _ h1
          · intro hh
            simp [hsz] at hh
            simp at hle
            omega
        · cases h

end
end Go.Ax
