/- AX: what a state says of a world. -/
import Derived.Test.YtefogennhgacjaaGreatAxExec
namespace Go.Ax
set_option linter.unusedSimpArgs false
set_option linter.unusedVariables false
open Go

theorem T.get_nil {α : Type} (i : Nat) : (T.nil : T α).get i = none := rfl

theorem T.get_setF {α : Type} : ∀ (f : Nat) (t : T α) (i : Nat) (x : Option α) (j : Nat), i < f → (T.setF f t i x).get j = if j = i then x else t.get j := by
  intro f
  induction f with
  | zero => intro t i x j h; omega
  | succ f ih =>
    intro t i x j h
    cases t with
    | nil =>
      cases i with
      | zero => cases j <;> simp [T.setF, T.get]; split <;> rfl
      | succ n =>
        cases hb : Nat.beq (n % 2) 0 with
        | true =>
          have h1 := Nat.eq_of_beq_eq_true hb
          cases j with
          | zero => simp [T.setF, T.get, hb]
          | succ m =>
            cases hm : Nat.beq (m % 2) 0 with
            | true =>
              have h2 := Nat.eq_of_beq_eq_true hm
              simp only [T.setF, T.get, hb, hm]
              rw [ih _ _ _ _ (by omega)]
              by_cases e : m / 2 = n / 2
              · rw [if_pos e, if_pos (by omega)]
              · rw [if_neg e, if_neg (by omega)]; rfl
            | false =>
              have h2 := Nat.ne_of_beq_eq_false hm
              simp only [T.setF, T.get, hb, hm]
              rw [if_neg (by omega)]
        | false =>
          have h1 := Nat.ne_of_beq_eq_false hb
          cases j with
          | zero => simp [T.setF, T.get, hb]
          | succ m =>
            cases hm : Nat.beq (m % 2) 0 with
            | true =>
              have h2 := Nat.eq_of_beq_eq_true hm
              simp only [T.setF, T.get, hb, hm]
              rw [if_neg (by omega)]
            | false =>
              have h2 := Nat.ne_of_beq_eq_false hm
              simp only [T.setF, T.get, hb, hm]
              rw [ih _ _ _ _ (by omega)]
              by_cases e : m / 2 = n / 2
              · rw [if_pos e, if_pos (by omega)]
              · rw [if_neg e, if_neg (by omega)]; rfl
    | node v l r =>
      cases i with
      | zero => cases j <;> simp [T.setF, T.get]
      | succ n =>
        cases hb : Nat.beq (n % 2) 0 with
        | true =>
          have h1 := Nat.eq_of_beq_eq_true hb
          cases j with
          | zero => simp [T.setF, T.get, hb]
          | succ m =>
            cases hm : Nat.beq (m % 2) 0 with
            | true =>
              have h2 := Nat.eq_of_beq_eq_true hm
              simp only [T.setF, T.get, hb, hm]
              rw [ih _ _ _ _ (by omega)]
              by_cases e : m / 2 = n / 2
              · rw [if_pos e, if_pos (by omega)]
              · rw [if_neg e, if_neg (by omega)]
            | false =>
              have h2 := Nat.ne_of_beq_eq_false hm
              simp only [T.setF, T.get, hb, hm]
              rw [if_neg (by omega)]
        | false =>
          have h1 := Nat.ne_of_beq_eq_false hb
          cases j with
          | zero => simp [T.setF, T.get, hb]
          | succ m =>
            cases hm : Nat.beq (m % 2) 0 with
            | true =>
              have h2 := Nat.eq_of_beq_eq_true hm
              simp only [T.setF, T.get, hb, hm]
              rw [if_neg (by omega)]
            | false =>
              have h2 := Nat.ne_of_beq_eq_false hm
              simp only [T.setF, T.get, hb, hm]
              rw [ih _ _ _ _ (by omega)]
              by_cases e : m / 2 = n / 2
              · rw [if_pos e, if_pos (by omega)]
              · rw [if_neg e, if_neg (by omega)]

theorem T.get_set {α : Type} (t : T α) (i : Nat) (x : Option α) (j : Nat) : (t.set i x).get j = if j = i then x else t.get j := T.get_setF _ _ _ _ _ (Nat.lt_succ_self i)
theorem T.get_set_same {α : Type} (t : T α) (i : Nat) (x : Option α) : (t.set i x).get i = x := by rw [T.get_set, if_pos rfl]
theorem T.get_set_ne {α : Type} (t : T α) {i j : Nat} (x : Option α) (h : j ≠ i) : (t.set i x).get j = t.get j := by rw [T.get_set, if_neg h]

/-- Where a row lies: its block, the first of its cells, how many cells the block has. -/
abbrev Map := Nat → Option (Nat × Nat × Nat)

mutual
/-- A value of the executor, and one of a world. -/
inductive VR (m : Map) : Value → Value → Prop
  | bool (b : Bool) : VR m (.bool b) (.bool b)
  | int (k : IntKind) (n : Int) : VR m (.int k n) (.int k n)
  | string (s : ByteArray) : VR m (.string s) (.string s)
  | nilp : VR m (.pointer none) (.pointer none)
  | ptr {i o b f t : Nat} (h : m i = some (b, f, t)) : VR m (.pointer (some ⟨i, o, none⟩)) (.pointer (some ⟨b, f + o, none⟩))
  | nils : VR m (.slice none 0 0) (.slice none 0 0)
  | slx {i o b f t len cap : Nat} (h : m i = some (b, f, t)) : VR m (.slice (some ⟨i, o, none⟩) len cap) (.slice (some ⟨b, f + o, none⟩) len cap)
  | slz {i o : Nat} {a : Addr} : VR m (.slice (some ⟨i, o, none⟩) 0 0) (.slice (some a) 0 0)
  | slo {i o z b f t len cap : Nat} {a : Addr} (h : m i = some (b, f, t)) (hc : f + o + cap * z = t) (hl : len ≤ cap) (hz : 0 < z) (ha : cap = 0 ∨ a = ⟨b, f + o, none⟩) :
      VR m (.slice (some ⟨i, o, some z⟩) len 0) (.slice (some a) len cap)
  | nilm : VR m (.map none) (.map none)
  | map {i b f t : Nat} (h : m i = some (b, f, t)) : VR m (.map (some i)) (.map (some b))
  | nilf : VR m .nilFunc .nilFunc
  | func {g : FuncId} {a a' b b' : List Value} (ha : VRs m a a') (hb : VRs m b b') : VR m (.func (.func g) ⟨a⟩ ⟨b⟩) (.func (.func g) ⟨a'⟩ ⟨b'⟩)
  | iface (t : TypeId) {v v' : Value} (h : VR m v v') : VR m (.iface t v) (.iface t v')
  | nili : VR m .nilIface .nilIface
  | agg {l l' : List Value} (h : VRs m l l') : VR m (.agg ⟨l⟩) (.agg ⟨l'⟩)
  | tuple {l l' : List Value} (h : VRs m l l') : VR m (.tuple ⟨l⟩) (.tuple ⟨l'⟩)
inductive VRs (m : Map) : List Value → List Value → Prop
  | nil : VRs m [] []
  | cons {v v' : Value} {l l' : List Value} (h : VR m v v') (hl : VRs m l l') : VRs m (v :: l) (v' :: l')
end

def Sub (m m' : Map) : Prop := ∀ i x, m i = some x → m' i = some x
theorem Sub.refl (m : Map) : Sub m m := fun _ _ h => h
theorem Sub.trans {a b c : Map} (h : Sub a b) (k : Sub b c) : Sub a c := fun i x e => k i x (h i x e)

mutual
theorem VR.mono {m m' : Map} (s : Sub m m') : ∀ {v v' : Value}, VR m v v' → VR m' v v'
  | _, _, .bool b => .bool b
  | _, _, .int k n => .int k n
  | _, _, .string s => .string s
  | _, _, .nilp => .nilp
  | _, _, .ptr h => .ptr (s _ _ h)
  | _, _, .nils => .nils
  | _, _, .slx h => .slx (s _ _ h)
  | _, _, .slz => .slz
  | _, _, .slo h hc hl hz ha => .slo (s _ _ h) hc hl hz ha
  | _, _, .nilm => .nilm
  | _, _, .map h => .map (s _ _ h)
  | _, _, .nilf => .nilf
  | _, _, .func ha hb => .func (VRs.mono s ha) (VRs.mono s hb)
  | _, _, .iface t h => .iface t (VR.mono s h)
  | _, _, .nili => .nili
  | _, _, .agg h => .agg (VRs.mono s h)
  | _, _, .tuple h => .tuple (VRs.mono s h)
theorem VRs.mono {m m' : Map} (s : Sub m m') : ∀ {l l' : List Value}, VRs m l l' → VRs m' l l'
  | _, _, .nil => .nil
  | _, _, .cons h hl => .cons (VR.mono s h) (VRs.mono s hl)
end

mutual
theorem VR.of_closed (m : Map) : ∀ (v : Value), closed v = true → VR m v v
  | .bool b, _ => .bool b
  | .int k n, _ => .int k n
  | .string s, _ => .string s
  | .pointer none, _ => .nilp
  | .pointer (some _), h => by simp [closed] at h
  | .slice none 0 0, _ => .nils
  | .slice none 0 (_ + 1), h => by simp [closed] at h
  | .slice none (_ + 1) _, h => by simp [closed] at h
  | .slice (some _) _ _, h => by simp [closed] at h
  | .map none, _ => .nilm
  | .map (some _), h => by simp [closed] at h
  | .nilFunc, _ => .nilf
  | .nilIface, _ => .nili
  | .agg ⟨l⟩, h => .agg (VRs.of_closed m l (by simpa [closed] using h))
  | .tuple ⟨l⟩, h => .tuple (VRs.of_closed m l (by simpa [closed] using h))
  | .iface t v, h => .iface t (VR.of_closed m v (by simpa [closed] using h))
  | .func (.func g) ⟨l⟩ ⟨k⟩, h => .func (VRs.of_closed m l (by simp [closed] at h; exact h.1)) (VRs.of_closed m k (by simp [closed] at h; exact h.2))
  | .func (.method _) ⟨_⟩ ⟨_⟩, h => by simp [closed] at h
  | .func (.methodOf _ _) ⟨_⟩ ⟨_⟩, h => by simp [closed] at h
  | .func (.via _ _ _ _) ⟨_⟩ ⟨_⟩, h => by simp [closed] at h
  | .func (.yield _) ⟨_⟩ ⟨_⟩, h => by simp [closed] at h
  | .float _ _, h => by simp [closed] at h
  | .complex _ _ _, h => by simp [closed] at h
  | .chan _, h => by simp [closed] at h
theorem VRs.of_closed (m : Map) : ∀ (l : List Value), closed.closedL l = true → VRs m l l
  | [], _ => .nil
  | v :: l, h => by
    simp [closed.closedL] at h
    exact .cons (VR.of_closed m v h.1) (VRs.of_closed m l h.2)
end

mutual
theorem VR.eq_of_closed {m : Map} : ∀ {v v' : Value}, closed v = true → VR m v v' → v' = v
  | _, _, _, .bool b => rfl
  | _, _, _, .int k n => rfl
  | _, _, _, .string s => rfl
  | _, _, _, .nilp => rfl
  | _, _, h, .ptr _ => by simp [closed] at h
  | _, _, _, .nils => rfl
  | _, _, h, .slx _ => by simp [closed] at h
  | _, _, h, .slz => by simp [closed] at h
  | _, _, h, .slo _ _ _ _ _ => by simp [closed] at h
  | _, _, _, .nilm => rfl
  | _, _, h, .map _ => by simp [closed] at h
  | _, _, _, .nilf => rfl
  | _, _, h, .func ha hb => by
    simp [closed] at h
    rw [VRs.eq_of_closed h.1 ha, VRs.eq_of_closed h.2 hb]
  | .iface _ _, .iface _ _, h, .iface _ hv => by rw [VR.eq_of_closed (by simpa [closed] using h) hv]
  | _, _, _, .nili => rfl
  | _, _, h, .agg hl => by rw [VRs.eq_of_closed (by simpa [closed] using h) hl]
  | _, _, h, .tuple hl => by rw [VRs.eq_of_closed (by simpa [closed] using h) hl]
theorem VRs.eq_of_closed {m : Map} : ∀ {l l' : List Value}, closed.closedL l = true → VRs m l l' → l' = l
  | _, _, _, .nil => rfl
  | _, _, h, .cons hv hl => by
    simp [closed.closedL] at h
    rw [VR.eq_of_closed h.1 hv, VRs.eq_of_closed h.2 hl]
end

theorem VRs.length {m : Map} : ∀ {l l' : List Value}, VRs m l l' → l'.length = l.length
  | _, _, .nil => rfl
  | _, _, .cons _ hl => by simp [VRs.length hl]
theorem VRs.append {m : Map} : ∀ {a a' b b' : List Value}, VRs m a a' → VRs m b b' → VRs m (a ++ b) (a' ++ b')
  | _, _, _, _, .nil, h => h
  | _, _, _, _, .cons h hl, k => .cons h (hl.append k)
theorem VRs.get {m : Map} : ∀ {l l' : List Value} (i : Nat) {v : Value}, VRs m l l' → l[i]? = some v → ∃ v', l'[i]? = some v' ∧ VR m v v'
  | _, _, 0, _, .cons h _, e => by simp at e; subst e; exact ⟨_, rfl, h⟩
  | _, _, i + 1, _, .cons _ hl, e => by simp at e; simpa using hl.get i e
  | _, _, _, _, .nil, e => by simp at e

/-- What a row of cells says of a world. -/
def CellsR (m : Map) (w : World) (b f t : Nat) (c : List Value) : Prop :=
  ∃ (c' : Array Value) (e : TypeId) (lo hi : Nat), w.heap[b]? = some (.cells c' e (lo, hi)) ∧ c'.size = t ∧ (hi ≤ lo ∨ t ≤ lo) ∧ f + c.length ≤ t ∧
      ∀ (j : Nat) (v : Value), c[j]? = some v → ∃ v', c'[f + j]? = some v' ∧ VR m v v'

/-- What a map says of a world. -/
def MapR (m : Map) (w : World) (b : Nat) (es : List MapEntry) (clock : Nat) : Prop :=
  ∃ (es' : Array MapEntry), w.heap[b]? = some (.map es' clock) ∧ es'.toList.length = es.length ∧
      ∀ (j : Nat) (e : MapEntry), es[j]? = some e → closed e.key = true ∧ ∃ v', es'.toList[j]? = some { e with val := v' } ∧ VR m e.val v'

/-- Cells that are only read. -/
def CellsRo (m : Map) (w : World) (b f : Nat) (c : List Value) : Prop :=
  ∃ (c' : Array Value) (e : TypeId) (z : Nat × Nat), w.heap[b]? = some (.cells c' e z) ∧ ∀ (j : Nat) (v : Value), c[j]? = some v → ∃ v', c'[f + j]? = some v' ∧ VR m v v'

/-- What a row says of a world. -/
def RowR (m : Map) (w : World) (b f t : Nat) : Row → Prop
  | .cells c => CellsR m w b f t c
  | .map es clock => MapR m w b es clock ∧ f = 0
  | .strIter s pos => w.heap[b]? = some (.stringIter s pos) ∧ f = 0
  | .mapIter none since seen stepped => w.heap[b]? = some (.mapIter none since ⟨seen⟩ stepped) ∧ f = 0
  | .mapIter (some i) since seen stepped => (∃ b' f' t', m i = some (b', f', t') ∧ w.heap[b]? = some (.mapIter (some b') since ⟨seen⟩ stepped)) ∧ f = 0
  | .ro c => CellsRo m w b f c

/-- Is a row only read? -/
def isRo : Row → Bool
  | .ro _ => true
  | _ => false

/-- Where a row may lie: what is only read, below B. -/
def Home (B b : Nat) : Row → Prop
  | .ro _ => b < B
  | _ => B ≤ b

theorem Home.of {B b : Nat} {r : Row} (h : B ≤ b) (hr : isRo r = false) : Home B b r := by cases r <;> first | exact h | cases hr
theorem Home.le {B b : Nat} {r : Row} (h : Home B b r) (hr : isRo r = false) : B ≤ b := by cases r <;> first | exact h | cases hr

theorem RowR.mono {m m' : Map} (s : Sub m m') {w : World} {b f t : Nat} {r : Row} (h : RowR m w b f t r) : RowR m' w b f t r := by
  cases r with
  | cells c =>
    obtain ⟨c', e, lo, hi, h1, h2, h3, h4, h5⟩ := h
    refine ⟨c', e, lo, hi, h1, h2, h3, h4, fun j v hj => ?_⟩
    obtain ⟨v', a, b⟩ := h5 j v hj
    exact ⟨v', a, b.mono s⟩
  | map es clock =>
    obtain ⟨⟨es', h1, h2, h3⟩, h4⟩ := h
    refine ⟨⟨es', h1, h2, fun j e hj => ?_⟩, h4⟩
    obtain ⟨hc, v', a, b⟩ := h3 j e hj
    exact ⟨hc, v', a, b.mono s⟩
  | strIter s pos => exact h
  | mapIter o since seen stepped =>
    cases o with
    | none => exact h
    | some i =>
      obtain ⟨⟨b', f', t', h1, h2⟩, h3⟩ := h
      exact ⟨⟨b', f', t', s _ _ h1, h2⟩, h3⟩
  | ro c =>
    obtain ⟨c', e, z, h1, h5⟩ := h
    refine ⟨c', e, z, h1, fun j v hj => ?_⟩
    obtain ⟨v', a, b⟩ := h5 j v hj
    exact ⟨v', a, b.mono s⟩

/-- A row reads the block alone. -/
theorem RowR.block {m : Map} {w w' : World} {b f t : Nat} {r : Row} (hb : w'.heap[b]? = w.heap[b]?) (h : RowR m w b f t r) : RowR m w' b f t r := by
  cases r with
  | cells c =>
    obtain ⟨c', e, lo, hi, h1, h⟩ := h
    exact ⟨c', e, lo, hi, hb.trans h1, h⟩
  | map es clock =>
    obtain ⟨⟨es', h1, h2⟩, h4⟩ := h
    exact ⟨⟨es', hb.trans h1, h2⟩, h4⟩
  | strIter s pos => exact ⟨hb.trans h.1, h.2⟩
  | mapIter o since seen stepped =>
    cases o with
    | none => exact ⟨hb.trans h.1, h.2⟩
    | some i =>
      obtain ⟨⟨b', f', t', h1, h2⟩, h3⟩ := h
      exact ⟨⟨b', f', t', h1, hb.trans h2⟩, h3⟩
  | ro c =>
    obtain ⟨c', e, z, h1, h⟩ := h
    exact ⟨c', e, z, hb.trans h1, h⟩

/-- A block that a row lies in is there. -/
theorem RowR.lt {m : Map} {w : World} {b f t : Nat} {r : Row} (h : RowR m w b f t r) : b < w.heap.size := by
  have : ∃ o, w.heap[b]? = some o := by
    cases r with
    | cells c => obtain ⟨c', e, lo, hi, h1, h⟩ := h; exact ⟨_, h1⟩
    | map es clock => obtain ⟨⟨es', h1, h2⟩, h4⟩ := h; exact ⟨_, h1⟩
    | strIter s pos => exact ⟨_, h.1⟩
    | mapIter o since seen stepped =>
      cases o with
      | none => exact ⟨_, h.1⟩
      | some i => obtain ⟨⟨b', f', t', h1, h2⟩, h3⟩ := h; exact ⟨_, h2⟩
    | ro c => obtain ⟨c', e, z, h1, h⟩ := h; exact ⟨_, h1⟩
  obtain ⟨o, ho⟩ := this
  rcases Nat.lt_or_ge b w.heap.size with h | h
  · exact h
  · rw [Array.getElem?_eq_none h] at ho; cases ho

/-- What the rows say of a world: from block B on, none over another; below B all is as in w0. -/
structure Rel (B : Nat) (w0 : World) (m : Map) (h : T Row) (w : World) : Prop where
  row : ∀ i r, h.get i = some r → ∃ b f t, m i = some (b, f, t) ∧ Home B b r ∧ RowR m w b f t r
  inj : ∀ i j r r' b f t b' f' t', isRo r = false → h.get i = some r → h.get j = some r' → m i = some (b, f, t) → m j = some (b', f', t') → b = b' → i = j
  below : RowKit.Below B w0 w
  size : B ≤ w.heap.size

/-- A frame's slots. -/
structure FR (m : Map) (f : AF) (a : Act) : Prop where
  n : a.tmps.size = f.n
  v : ∀ i, VR m (f.get i) (a.tmps.getD i undef)

theorem VR.undef (m : Map) : VR m undef undef := .tuple .nil

theorem FR.mono {m m' : Map} (s : Sub m m') {f : AF} {a : Act} (h : FR m f a) : FR m' f a := ⟨h.n, fun i => (h.v i).mono s⟩

theorem AF.get_put {f f' : AF} {d : Tmp} {v : Value} (h : f.put (some d) v = some f') (i : Nat) : f'.get i = if i = d then v else f.get i := by
  unfold AF.put at h
  dsimp only at h
  split at h
  · cases h
    unfold AF.get
    dsimp only
    rw [T.get_set]
    by_cases e : i = d
    · rw [if_pos e, if_pos e]
    · rw [if_neg e, if_neg e]
  · cases h

theorem AF.put_n {f f' : AF} {dst : Option Tmp} {v : Value} (h : f.put dst v = some f') : f'.n = f.n := by
  cases dst with
  | none => simp [AF.put] at h; rw [h]
  | some d =>
    unfold AF.put at h
    dsimp only at h
    split at h
    · cases h; rfl
    · cases h

theorem AF.put_lt {f f' : AF} {d : Tmp} {v : Value} (h : f.put (some d) v = some f') : d < f.n := by
  unfold AF.put at h
  dsimp only at h
  split at h
  · rename_i hb; simpa [Nat.blt_eq] using hb
  · cases h

theorem FR.put {m : Map} {f f' : AF} {a : Act} {dst : Option Tmp} {v v' : Value} (h : FR m f a) (hp : f.put dst v = some f') (hv : VR m v v') : FR m f' (a.put dst v') := by
  cases dst with
  | none => simp [AF.put] at hp; subst hp; exact h
  | some d =>
    have hlt := AF.put_lt hp
    refine ⟨?_, fun i => ?_⟩
    · simp [Act.put, h.n, AF.put_n hp]
    · rw [AF.get_put hp]
      by_cases e : i = d
      · subst e
        rw [if_pos rfl]
        simp [Act.put, Array.getElem?_setIfInBounds, h.n, hlt, hv]
      · rw [if_neg e]
        have := h.v i
        simpa [Act.put, Array.getElem?_setIfInBounds, Ne.symm e] using this

theorem FR.eval {m : Map} {f : AF} {a : Act} (h : FR m f a) {x : Operand} {v : Value} (hx : f.eval x = some v) : VR m v (a.eval x) := by
  cases x with
  | tmp t => simp [AF.eval] at hx; subst hx; exact h.v t
  | const c =>
    simp only [AF.eval] at hx
    split at hx
    · rename_i hc; cases hx; exact VR.of_closed m _ hc
    · cases hx
  | global g => simp [AF.eval] at hx
  | func g => simp [AF.eval] at hx; subst hx; exact .func .nil .nil

theorem FR.evals {m : Map} {f : AF} {a : Act} (h : FR m f a) : ∀ {l : List Operand} {vs : List Value}, evals f l = some vs → VRs m vs (l.map a.eval)
  | [], vs, e => by simp [Ax.evals] at e; subst e; exact .nil
  | x :: l, vs, e => by
    unfold Ax.evals at e
    split at e
    · cases e
    · rename_i v hv
      split at e
      · cases e
      · rename_i vs' hvs
        cases e
        exact .cons (h.eval hv) (h.evals hvs)

end Go.Ax
