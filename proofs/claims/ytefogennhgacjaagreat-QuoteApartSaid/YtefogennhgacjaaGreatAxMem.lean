/- AX: rows read, written, made. -/
import Derived.Test.YtefogennhgacjaaGreatAxRel
namespace Go.Ax
set_option linter.unusedSimpArgs false
set_option linter.unusedVariables false
open Go

theorem Rel.congr {B : Nat} {w0 : World} {m : Map} {h h' : T Row} {w : World} (e : ∀ i, h'.get i = h.get i) (r : Rel B w0 m h w) : Rel B w0 m h' w :=
  ⟨fun i x hx => r.row i x (by rw [← e]; exact hx), fun i j x y b f t b' f' t' hr hx hy => r.inj i j x y b f t b' f' t' hr (by rw [← e]; exact hx) (by rw [← e]; exact hy), r.below, r.size⟩

theorem Rel.kill {B : Nat} {w0 : World} {m : Map} {h : T Row} {w : World} (i : Nat) (r : Rel B w0 m h w) : Rel B w0 m (h.set i none) w := by
  have e : ∀ j x, (h.set i none).get j = some x → h.get j = some x := by
    intro j x hx
    rw [T.get_set] at hx
    split at hx
    · cases hx
    · exact hx
  exact ⟨fun j x hx => r.row j x (e j x hx), fun i j x y b f t b' f' t' hr hx hy => r.inj i j x y b f t b' f' t' hr (e _ _ hx) (e _ _ hy), r.below, r.size⟩

def Map.upd (m : Map) (i : Nat) (x : Nat × Nat × Nat) : Map := fun j => if j = i then some x else m j
theorem Map.upd_same (m : Map) (i : Nat) (x : Nat × Nat × Nat) : m.upd i x i = some x := by simp [Map.upd]
theorem Map.upd_ne (m : Map) {i j : Nat} (x : Nat × Nat × Nat) (h : j ≠ i) : m.upd i x j = m j := by simp [Map.upd, h]
theorem Map.sub_upd {m : Map} {i : Nat} (x : Nat × Nat × Nat) (h : m i = none) : Sub m (m.upd i x) := by
  intro j y hy
  by_cases e : j = i
  · subst e; rw [h] at hy; cases hy
  · rw [Map.upd_ne _ _ e]; exact hy

/-- One more row. -/
theorem Rel.put {B : Nat} {w0 : World} {m : Map} {h : T Row} {w w' : World} {i b f t : Nat} {row : Row} (r : Rel B w0 m h w) (hi : m i = none)
    (hb : Home B b row) (hfree : ∀ j x, h.get j = some x → ∀ b' f' t', m j = some (b', f', t') → b' ≠ b)
    (hsame : ∀ j, j ≠ b → w'.heap[j]? = w.heap[j]? ∨ w.heap.size ≤ j) (hlow : RowKit.Below B w w') (hrow : RowR (m.upd i (b, f, t)) w' b f t row) :
    Rel B w0 (m.upd i (b, f, t)) (h.set i (some row)) w' := by
  have s := Map.sub_upd (b, f, t) hi
  have hno : ∀ j x, h.get j = some x → j ≠ i := by
    intro j x hx e
    subst e
    obtain ⟨b', f', t', h1, _⟩ := r.row _ _ hx
    rw [hi] at h1; cases h1
  refine ⟨fun j x hx => ?_, fun j k x y b1 f1 t1 b2 f2 t2 hr hx hy h1 h2 hbb => ?_, r.below.trans hlow, Nat.le_trans r.size hlow.size⟩
  · rw [T.get_set] at hx
    split at hx
    · rename_i e; subst e; cases hx
      exact ⟨b, f, t, Map.upd_same _ _ _, hb, hrow⟩
    · obtain ⟨b', f', t', h1, h2, h3⟩ := r.row _ _ hx
      refine ⟨b', f', t', s _ _ h1, h2, ?_⟩
      rcases hsame b' (hfree _ _ hx _ _ _ h1) with h4 | h4
      · exact (h3.mono s).block h4
      · have := h3.lt; omega
  · rw [T.get_set] at hx hy
    by_cases ej : j = i
    · by_cases ek : k = i
      · rw [ej, ek]
      · rw [if_neg ek] at hy
        rw [Map.upd_ne _ _ ek] at h2
        subst ej
        rw [Map.upd_same] at h1
        cases h1
        exact absurd hbb.symm (hfree _ _ hy _ _ _ h2)
    · rw [if_neg ej] at hx
      rw [Map.upd_ne _ _ ej] at h1
      by_cases ek : k = i
      · subst ek
        rw [Map.upd_same] at h2
        cases h2
        exact absurd hbb (hfree _ _ hx _ _ _ h1)
      · rw [if_neg ek] at hy
        rw [Map.upd_ne _ _ ek] at h2
        exact r.inj _ _ _ _ _ _ _ _ _ _ hr hx hy h1 h2 hbb

/-- A new block. -/
theorem Rel.new {B : Nat} {w0 : World} {m : Map} {h : T Row} {w : World} {i t : Nat} {row : Row} {o : Obj} (r : Rel B w0 m h w) (hi : m i = none) (hro : isRo row = false)
    (hrow : RowR (m.upd i (w.heap.size, 0, t)) { w with heap := w.heap.push o } w.heap.size 0 t row) :
    Rel B w0 (m.upd i (w.heap.size, 0, t)) (h.set i (some row)) { w with heap := w.heap.push o } := by
  refine r.put hi (.of r.size hro) ?_ ?_ ?_ hrow
  · intro j x hx b' f' t' h1 e
    obtain ⟨b2, f2, t2, h2, _, h3⟩ := r.row _ _ hx
    rw [h1] at h2; cases h2
    have := h3.lt
    omega
  · intro j hj
    rcases Nat.lt_or_ge j w.heap.size with h | h
    · left
      show (w.heap.push o)[j]? = _
      rw [Array.getElem?_push, if_neg (by omega)]
    · exact .inr h
  · exact (RowKit.Below.refl B w).alloc r.size o

/-- A row in its block, changed. -/
theorem Rel.turn {B : Nat} {w0 : World} {m : Map} {h : T Row} {w w' : World} {i b f t : Nat} {row row' : Row} (r : Rel B w0 m h w) (hg : h.get i = some row) (hro : isRo row = false) (hro' : isRo row' = false) (hm : m i = some (b, f, t))
    (hsame : ∀ j, j ≠ b → w'.heap[j]? = w.heap[j]?) (hlow : RowKit.Below B w w') (hrow : RowR m w' b f t row') :
    Rel B w0 m (h.set i (some row')) w' := by
  have hB : B ≤ b := by
    obtain ⟨b', f', t', h1, h2, _⟩ := r.row _ _ hg
    rw [hm] at h1; cases h1; exact h2.le hro
  refine ⟨fun j x hx => ?_, fun j k x y b1 f1 t1 b2 f2 t2 hr hx hy h1 h2 hbb => ?_, r.below.trans hlow, Nat.le_trans r.size hlow.size⟩
  · rw [T.get_set] at hx
    split at hx
    · rename_i e; subst e; cases hx
      exact ⟨b, f, t, hm, .of hB hro', hrow⟩
    · rename_i e
      obtain ⟨b', f', t', h1, h2, h3⟩ := r.row _ _ hx
      refine ⟨b', f', t', h1, h2, h3.block (hsame _ ?_)⟩
      intro hbb
      exact e (r.inj _ _ _ _ _ _ _ _ _ _ hro hg hx hm h1 hbb.symm).symm
  · have key : ∀ j x, (h.set i (some row')).get j = some x → ∃ y, (isRo x = false → isRo y = false) ∧ h.get j = some y := by
      intro j x hx
      rw [T.get_set] at hx
      split at hx
      · rename_i e; subst e; exact ⟨_, fun _ => hro, hg⟩
      · exact ⟨_, id, hx⟩
    obtain ⟨x', hr', hx'⟩ := key _ _ hx
    obtain ⟨y', -, hy'⟩ := key _ _ hy
    exact r.inj _ _ _ _ _ _ _ _ _ _ (hr' hr) hx' hy' h1 h2 hbb

/-! ### cells read -/

theorem add_addr (b o n : Nat) : (⟨b, o, none⟩ : Addr).add n = ⟨b, o + n, none⟩ := by
  unfold Addr.add
  split
  · rename_i h; subst h; rfl
  · rfl

theorem cell?_at {w : World} {b o : Nat} {c : Array Value} {e : TypeId} {z : Nat × Nat} (h : w.heap[b]? = some (.cells c e z)) : w.cell? ⟨b, o, none⟩ = c[o]? := by
  simp [World.cell?, h]

theorem takeN_spec : ∀ (n : Nat) (l r : List Value), takeN n l = some r → r.length = n ∧ ∀ j, j < n → r[j]? = l[j]?
  | 0, l, r, h => by simp [takeN] at h; subst h; exact ⟨rfl, fun j hj => by omega⟩
  | n + 1, [], r, h => by simp [takeN] at h
  | n + 1, v :: l, r, h => by
    unfold takeN at h
    split at h
    · rename_i r' hr
      cases h
      obtain ⟨h1, h2⟩ := takeN_spec n l r' hr
      refine ⟨by simp [h1], fun j hj => ?_⟩
      cases j with
      | zero => rfl
      | succ j => simpa using h2 j (by omega)
    · cases h

theorem dropN_eq : ∀ (n : Nat) (l : List Value), dropN n l = l.drop n
  | 0, l => by simp [dropN]
  | n + 1, [] => by simp [dropN]
  | n + 1, v :: l => by simp [dropN, dropN_eq n l]

theorem slab_spec {l r : List Value} {o n : Nat} (h : slab l o n = some r) : r.length = n ∧ (∀ j, j < n → r[j]? = l[o + j]?) ∧ (0 < n → o + n ≤ l.length) := by
  unfold slab at h
  rw [dropN_eq] at h
  obtain ⟨h1, h2⟩ := takeN_spec n _ r h
  refine ⟨h1, fun j hj => by rw [h2 j hj, List.getElem?_drop], fun hn => ?_⟩
  have h3 := h2 (n - 1) (by omega)
  have : r[n - 1]? ≠ none := by rw [List.getElem?_eq_getElem (by omega)]; simp
  rw [h3, List.getElem?_drop] at this
  rcases Nat.lt_or_ge (o + (n - 1)) l.length with h | h
  · omega
  · exact absurd (List.getElem?_eq_none h) this

theorem VRs.of_get {m : Map} : ∀ {l l' : List Value}, l'.length = l.length → (∀ (j : Nat) (v : Value), l[j]? = some v → ∃ v', l'[j]? = some v' ∧ VR m v v') → VRs m l l'
  | [], [], _, _ => .nil
  | [], _ :: _, h, _ => by simp at h
  | _ :: _, [], h, _ => by simp at h
  | v :: l, v' :: l', h, k => by
    obtain ⟨u, hu, hv⟩ := k 0 v rfl
    simp at hu; subst hu
    exact .cons hv (VRs.of_get (by simpa using h) fun j x hx => by simpa using k (j + 1) x (by simpa using hx))

theorem run_loadCellsFrom {P : Program} {w : World} {b o : Nat} {c : Array Value} {e : TypeId} {z : Nat × Nat} (hb : w.heap[b]? = some (.cells c e z)) :
    ∀ (n i : Nat) (acc l : List Value), l.length = n → (∀ j, j < n → c[o + (i + j)]? = l[j]?) →
      (loadCellsFrom ⟨b, o, none⟩ i n ⟨acc⟩).run P w = .ok ⟨acc ++ l⟩ w
  | 0, i, acc, l, hl, _ => by
    have : l = [] := List.length_eq_zero_iff.1 hl
    subst this
    simp [loadCellsFrom, pure]
  | n + 1, i, acc, [], hl, _ => by simp at hl
  | n + 1, i, acc, v :: l, hl, h => by
    have h0 := h 0 (by omega)
    simp at h0
    have ih := run_loadCellsFrom (P := P) hb n (i + 1) (acc ++ [v]) l (by simpa using hl) (fun j hj => by
      have := h (j + 1) (by omega)
      simpa [Nat.add_assoc, Nat.add_comm 1 j] using this)
    unfold loadCellsFrom
    simp only [load, bind, Sem.bind, Sem.run, add_addr, cell?_at hb, h0]
    simpa using ih

/-- A row's cells, to be read. -/
def CellsAt (h : T Row) (i : Nat) (c : List Value) : Prop := h.get i = some (.cells c) ∨ h.get i = some (.ro c)

theorem Rel.at {B : Nat} {w0 : World} {m : Map} {h : T Row} {w : World} {i : Nat} {c : List Value} (r : Rel B w0 m h w) (hg : CellsAt h i c) :
    ∃ b f t c' e z, m i = some (b, f, t) ∧ w.heap[b]? = some (.cells c' e z) ∧ ∀ (j : Nat) (v : Value), c[j]? = some v → ∃ v', c'[f + j]? = some v' ∧ VR m v v' := by
  rcases hg with hg | hg
  · obtain ⟨b, f, t, h1, h2, c', e, lo, hi, h3, h4, h5, h6, h7⟩ := r.row _ _ hg
    exact ⟨b, f, t, c', e, (lo, hi), h1, h3, h7⟩
  · obtain ⟨b, f, t, h1, h2, c', e, z, h3, h7⟩ := r.row _ _ hg
    exact ⟨b, f, t, c', e, z, h1, h3, h7⟩

/-- Cells, read. -/
theorem Rel.cells {B : Nat} {w0 : World} {m : Map} {h : T Row} {w : World} {i o n : Nat} {c l : List Value} (r : Rel B w0 m h w) (hg : CellsAt h i c) (hl : slab c o n = some l) :
    ∃ b f t l', m i = some (b, f, t) ∧ (∀ P w', w'.heap = w.heap → (loadCells ⟨b, f + o, none⟩ n).run P w' = .ok ⟨l'⟩ w') ∧ VRs m l l' := by
  obtain ⟨b, f, t, c', e, z, h1, h3, h7⟩ := r.at hg
  obtain ⟨s1, s2, s3⟩ := slab_spec hl
  let l' := ((List.range n).map fun j => (c'[f + o + j]?).getD undef)
  have hlen : l'.length = n := by simp [l']
  have hall : ∀ j, j < n → c'[f + o + j]? = l'[j]? := by
    intro j hj
    have : o + j < c.length := by have := s3 (by omega); omega
    obtain ⟨v', hv', _⟩ := h7 (o + j) c[o + j] (by simp [this])
    simp only [l', List.getElem?_map, List.getElem?_range hj, Option.map_some]
    rw [show f + o + j = f + (o + j) from by omega, hv']
    rfl
  refine ⟨b, f, t, l', h1, fun P w' hw' => ?_, ?_⟩
  · have := run_loadCellsFrom (P := P) (o := f + o) (w := w') (by rw [hw']; exact h3) n 0 [] l' hlen (fun j hj => by simpa using hall j hj)
    simpa [loadCells] using this
  · refine VRs.of_get (by rw [hlen, s1]) fun j v hj => ?_
    have hjn : j < n := by
      rcases Nat.lt_or_ge j n with h | h
      · exact h
      · rw [List.getElem?_eq_none (by omega)] at hj; cases hj
    rw [s2 j hjn] at hj
    obtain ⟨v', hv', hr⟩ := h7 (o + j) v hj
    refine ⟨v', ?_, hr⟩
    rw [← hall j hjn, ← hv', show f + o + j = f + (o + j) from by omega]

/-! ### cells written -/

theorem VR.plain {m : Map} {v v' : Value} (h : VR m v v') (hp : plain v = true) : (∀ x, v' ≠ .agg x) ∧ (∀ x, v' ≠ .tuple x) := by
  cases h <;> first | (simp [Ax.plain] at hp; done) | (constructor <;> intro x hx <;> cases hx)

theorem plains_cons {v : Value} {l : List Value} : plains (v :: l) = (plain v && plains l) := rfl

theorem lay_nil : ∀ (o : Nat) (c c2 : List Value), lay [] o c = some c2 → c2 = c
  | 0, c, c2, h => by simp [lay, over] at h; exact h.symm
  | o + 1, [], c2, h => by simp [lay] at h
  | o + 1, x :: c, c2, h => by
    unfold lay at h
    split at h
    · rename_i r hr; cases h; rw [lay_nil o c r hr]
    · cases h

theorem lay_cons : ∀ (o : Nat) (v : Value) (vs c c2 : List Value), lay (v :: vs) o c = some c2 → o < c.length ∧ lay vs (o + 1) (c.set o v) = some c2
  | 0, v, vs, [], c2, h => by simp [lay, over] at h
  | 0, v, vs, x :: c, c2, h => by
    simp only [lay, over] at h
    refine ⟨by simp, ?_⟩
    simp only [List.set_cons_zero, lay]
    exact h
  | o + 1, v, vs, [], c2, h => by simp [lay] at h
  | o + 1, v, vs, x :: c, c2, h => by
    unfold lay at h
    split at h
    · rename_i r hr
      cases h
      obtain ⟨h1, h2⟩ := lay_cons o v vs c r hr
      refine ⟨by simpa using h1, ?_⟩
      simp only [List.set_cons_succ]
      unfold lay
      rw [h2]
    · cases h

theorem lay_length : ∀ (vs : List Value) (o : Nat) (c c2 : List Value), lay vs o c = some c2 → c2.length = c.length
  | [], o, c, c2, h => by rw [lay_nil o c c2 h]
  | v :: vs, o, c, c2, h => by
    obtain ⟨_, h2⟩ := lay_cons o v vs c c2 h
    rw [lay_length vs _ _ _ h2]; simp

theorem not_frozen {w : World} {b o lo hi : Nat} {c : Array Value} {e : TypeId} (h : w.heap[b]? = some (.cells c e (lo, hi))) (ht : hi ≤ lo ∨ c.size ≤ lo) (ho : o < c.size) :
    w.frozen? ⟨b, o, none⟩ = false := by
  simp [World.frozen?, h]
  omega

theorem heap_setCell_ne (w : World) (a : Addr) (u : Value) (k : Nat) (h : k ≠ a.block) : (w.setCell a u).heap[k]? = w.heap[k]? := RowKit.Below.heap_setCell _ _ _ _ h

theorem heap_setCell_at {w : World} {b o : Nat} {c : Array Value} {e : TypeId} {z : Nat × Nat} (u : Value) (h : w.heap[b]? = some (.cells c e z)) :
    (w.setCell ⟨b, o, none⟩ u).heap[b]? = some (.cells (c.setIfInBounds o u) e z) := by
  simp [World.setCell, Array.getElem?_modify, h]

/-- A cell of a block, written. -/
theorem run_store {P : Program} {α : Type} {w : World} {b o lo hi : Nat} {c : Array Value} {e : TypeId} {v : Value} {k : Sem α} (h : w.heap[b]? = some (.cells c e (lo, hi)))
    (ht : hi ≤ lo ∨ c.size ≤ lo) (ho : o < c.size) (h1 : ∀ x, v ≠ .agg x) (h2 : ∀ x, v ≠ .tuple x) :
    (Sem.store .plain ⟨b, o, none⟩ v k).run P w = k.run P (w.setCell ⟨b, o, none⟩ v) := by
  have hc : w.cell? ⟨b, o, none⟩ = some c[o] := by rw [cell?_at h]; simp [ho]
  have hf := not_frozen h ht ho
  cases v <;> first
    | exact absurd rfl (h1 _)
    | exact absurd rfl (h2 _)
    | (simp only [Sem.run, hc, hf]; rfl)

theorem Rel.store1 {B : Nat} {w0 : World} {m : Map} {h : T Row} {w : World} {i j b f t : Nat} {c : List Value} {v v' : Value} (r : Rel B w0 m h w) (hg : h.get i = some (.cells c))
    (hm : m i = some (b, f, t)) (hj : j < c.length) (hv : VR m v v') (hp : plain v = true) :
    (∀ {α : Type} (P : Program) (k : Sem α), (Sem.store .plain ⟨b, f + j, none⟩ v' k).run P w = k.run P (w.setCell ⟨b, f + j, none⟩ v')) ∧
      Rel B w0 m (h.set i (some (.cells (c.set j v)))) (w.setCell ⟨b, f + j, none⟩ v') := by
  obtain ⟨b1, f1, t1, e1, h2, c', e, lo, hi, h3, h4, h5, h6, h7⟩ := r.row _ _ hg
  rw [hm] at e1; cases e1
  obtain ⟨p1, p2⟩ := hv.plain hp
  refine ⟨fun P k => run_store h3 (by rw [h4]; exact h5) (by omega) p1 p2, ?_⟩
  refine r.turn hg rfl rfl hm (fun k hk => heap_setCell_ne _ _ _ _ hk) ((RowKit.Below.refl B w).setCell (h2.le rfl) _) ?_
  refine ⟨_, e, lo, hi, heap_setCell_at v' h3, by simp [h4], h5, by simpa using h6, fun k x hx => ?_⟩
  rw [List.getElem?_set] at hx
  split at hx
  · rename_i ejk
    subst ejk
    cases hx
    refine ⟨v', ?_, hv⟩
    rw [Array.getElem?_setIfInBounds, if_pos rfl, if_pos (by omega)]
  · rename_i ejk
    obtain ⟨x', hx', hr⟩ := h7 k x hx
    refine ⟨x', ?_, hr⟩
    rw [Array.getElem?_setIfInBounds, if_neg (by omega)]
    exact hx'

theorem Rel.stores {B : Nat} {w0 : World} {m : Map} {i b f t : Nat} (hm : m i = some (b, f, t)) (P : Program) (o : Nat) :
    ∀ {vs vs' : List Value}, VRs m vs vs' → plains vs = true → ∀ (k : Nat) (c c2 : List Value) (h : T Row) (w : World), Rel B w0 m h w → h.get i = some (.cells c) →
      lay vs (o + k) c = some c2 → ∃ w', (storeCells ⟨b, f + o, none⟩ vs' k).run P w = .ok () w' ∧ Rel B w0 m (h.set i (some (.cells c2))) w'
  | _, _, .nil, _, k, c, c2, h, w, r, hg, hl => by
    have := lay_nil _ _ _ hl
    subst this
    refine ⟨w, by simp [storeCells, pure], r.congr fun j => ?_⟩
    rw [T.get_set]
    split
    · rename_i e; subst e; exact hg.symm
    · rfl
  | v :: vs, v' :: vs', .cons hv hvs, hp, k, c, c2, h, w, r, hg, hl => by
    rw [plains_cons, Bool.and_eq_true] at hp
    obtain ⟨h1, h2⟩ := lay_cons _ _ _ _ _ hl
    obtain ⟨hrun, r1⟩ := r.store1 hg hm h1 hv hp.1
    obtain ⟨w', hw', r2⟩ := Rel.stores hm P o hvs hp.2 (k + 1) (c.set (o + k) v) c2 _ _ r1 (T.get_set_same _ _ _) (by rw [← Nat.add_assoc]; exact h2)
    refine ⟨w', ?_, r2.congr fun j => ?_⟩
    · unfold storeCells
      simp only [store, bind, Sem.bind, add_addr]
      rw [show f + o + k = f + (o + k) from by omega]
      rw [hrun]
      simpa [Sem.run] using hw'
    · rw [T.get_set, T.get_set, T.get_set]
      split <;> rfl

end Go.Ax
