/- AX: a region that draws its order: the theorem. -/
import Derived.Test.YtefogennhgacjaaGreatAxDraw3
namespace Go.Ax
set_option linter.unusedSimpArgs false
set_option linter.unusedVariables false
open Go

section
variable {P : Program} {tab : Tab} {B : Nat} {w0 : World} {ih : Ex} {ops : Array Oper} {pr : Nat → List Nat} {F : Nat → AF} {H : Nat → T Row} {N : Nat → Nat} {V : Nat → Value} {RD EF : Nat → List Nat}

theorem Trace.mono (T : Trace P tab ih ops pr F H N V RD EF) (hn : ExN ih) : ∀ {j k : Nat}, j ≤ k → k ≤ ops.size → N j ≤ N k := by
  intro j k
  induction k with
  | zero => intro h _; rw [show j = 0 from by omega]; exact Nat.le_refl _
  | succ k ihk =>
    intro h1 h2
    rcases Nat.lt_or_ge k j with h | h
    · rw [show j = k + 1 from by omega]; exact Nat.le_refl _
    · obtain ⟨o, ho⟩ := getSome (ops := ops) (i := k) (by omega)
      have := runOne_n hn (T.run k o ho)
      exact Nat.le_trans (ihk h (by omega)) this

/-- What holds where the operations in D are done. -/
structure Inv (B : Nat) (w0 : World) (ops : Array Oper) (F : Nat → AF) (H : Nat → T Row) (N : Nat → Nat) (V : Nat → Value) (EF : Nat → List Nat) (mS : Map) (D : Nat → Bool) (a : Act) (w : World) : Prop where
  d : a.defers = []
  x : ∃ (fD : AF) (h : T Row) (m : Map), fD.n = (F 0).n ∧ (∀ t, fD.get t = TD ops F V D ops.size t) ∧ FR m fD a ∧ (∀ x, h.get x = GD H EF D ops.size x) ∧ Sub mS m ∧ Rel B w0 m h w ∧
    ∀ id, m id ≠ none → mS id ≠ none ∨ ∃ j, j < ops.size ∧ D j = true ∧ N j ≤ id ∧ id < N (j + 1)

theorem GD_ext {D D' : Nat → Bool} : ∀ {k : Nat}, (∀ j, j < k → D j = D' j) → ∀ x, GD H EF D k x = GD H EF D' k x
  | 0, _, _ => rfl
  | k + 1, h, x => by unfold GD; rw [h k (by omega), GD_ext (fun j hj => h j (by omega)) x]

theorem TD_ext {D D' : Nat → Bool} : ∀ {k : Nat}, (∀ j, j < k → D j = D' j) → ∀ t, TD ops F V D k t = TD ops F V D' k t
  | 0, _, _ => rfl
  | k + 1, h, t => by unfold TD; rw [h k (by omega), TD_ext (fun j hj => h j (by omega)) t]

theorem Inv.ext {mS : Map} {D D' : Nat → Bool} {a : Act} {w : World} (e : ∀ j, j < ops.size → D j = D' j) (h : Inv B w0 ops F H N V EF mS D a w) : Inv B w0 ops F H N V EF mS D' a w := by
  obtain ⟨hd, fD, hh, m, h1, h2, h3, h4, h5, h6, h7⟩ := h
  refine ⟨hd, fD, hh, m, h1, fun t => by rw [h2, TD_ext e], h3, fun x => by rw [h4, GD_ext e], h5, h6, fun id hid => ?_⟩
  rcases h7 id hid with h | ⟨j, j1, j2, j3⟩
  · exact .inl h
  · exact .inr ⟨j, j1, by rw [← e j j1]; exact j2, j3⟩

/-- One operation more. -/
theorem Inv.step (T : Trace P tab ih ops pr F H N V RD EF) (S : Stat ops pr) (ht : TabOk P tab) (hn : ExN ih) (hl : LocE ih) (hcs : CallS P tab B w0 ih) (hsel : Region.noSelect ops = true) {mS : Map}
    (hfree : ∀ id, N 0 ≤ id → id < N ops.size → mS id = none) {D : Nat → Bool} (hc : ∀ j, j < ops.size → D j = true → ∀ x ∈ pr j, D x = true) {i : Nat} {o : Oper} (ho : ops[i]? = some o) (hi : i < ops.size) (hD : D i = false) (hp : ∀ x ∈ pr i, D x = true)
    {a : Act} {w : World} (I : Inv B w0 ops F H N V EF mS D a w) {K : Act → World → Prop} {Q : Exit → Act → World → Prop} (hK : ∀ a' w', Inv B w0 ops F H N V EF mS (D1 D i) a' w' → K a' w') :
    wpOp P ops Q i K a w := by
  obtain ⟨hd, fD, hh, m, h1, h2, h3, h4, h5, h6, h7⟩ := I
  have hloc := T.loc hl ho
  obtain ⟨l1, l2, l3, l4, l5, l6⟩ := hloc
  have hrun0 := T.run i o ho
  have hfr : ∀ t ∈ o.looksAt ops, (F i).get t = fD.get t := fun t ht' => by rw [h2, TD_read T S hc ho hi hD hp ht']
  have hnos := Region.noSelect_spec hsel i o
  obtain ⟨⟨h', n', rl', wl'⟩, r1, r2, r3, r4, r5, r6⟩ := l6 ⟨hh, N i, [], []⟩ rfl (fun x hx => by dsimp only; rw [h4, GD_read T hl hc hi hD hp hx])
  dsimp only at r2 r5 r6
  subst r2
  rw [runOne_congr (f := F i) (f' := fD) (fun cs b => hnos cs b ho) hfr] at r1
  have hmono1 := T.mono hn (Nat.zero_le i) (by omega : i ≤ ops.size)
  have hmono2 := T.mono hn (by omega : i + 1 ≤ ops.size) (Nat.le_refl _)
  have hle : N i ≤ N (i + 1) := T.mono hn (by omega) (by omega)
  have hfree2 : ∀ id, N i ≤ id → id < N (i + 1) → m id = none := by
    intro id g1 g2
    cases hm : m id with
    | none => rfl
    | some y =>
      rcases h7 id (by rw [hm]; simp) with h | ⟨j, j1, j2, j3, j4⟩
      · exact absurd (hfree id (by omega) (by omega)) h
      · have hji : j ≠ i := fun e => by subst e; rw [hD] at j2; cases j2
        rcases Nat.lt_or_ge j i with h | h
        · have := T.mono hn (by omega : j + 1 ≤ i) (by omega); omega
        · have := T.mono hn (by omega : i + 1 ≤ j) (by omega); omega
  have hput : ∃ fD', fD.put o.dst (V i) = some fD' := by
    have hp0 := T.put i o ho
    obtain ⟨dst, op, type, pos, after, guard⟩ := o
    dsimp only at hp0 ⊢
    cases dst with
    | none => exact ⟨fD, rfl⟩
    | some d =>
      have hlt := AF.put_lt hp0
      rw [T.fn i (by omega), ← h1] at hlt
      refine ⟨⟨fD.t.set d (some (V i)), fD.n⟩, ?_⟩
      unfold AF.put
      dsimp only
      rw [show Nat.blt d fD.n = true from by simpa [Nat.blt_eq] using hlt]
  obtain ⟨fD', hfD'⟩ := hput
  unfold wpOp
  rw [ho]
  dsimp only
  have key := one_sound ht hcs (ops := ops) (o := o) (next := K) (Q := Q) r1 h3 h6 (by dsimp only; exact hfree2) (by
    intro v' w' hpost
    obtain ⟨m', p1, p2, p3, p4⟩ := hpost
    dsimp only at p2 p4
    refine hK _ _ ⟨by rw [put_defers]; exact hd, fD', h', m', by rw [AF.put_n hfD', h1], ?_, (h3.mono p1).put hfD' p3, ?_, h5.trans p1, p2, ?_⟩
    · intro t
      rw [TD_new S hc ho hi hD t]
      obtain ⟨dst, op, type, pos, after, guard⟩ := o
      dsimp only at hfD' ⊢
      cases dst with
      | none =>
        simp [AF.put] at hfD'
        rw [← hfD', h2]; simp
      | some d =>
        rw [AF.get_put hfD']
        by_cases e : t = d
        · rw [if_pos e, if_pos (by rw [e])]
        · rw [if_neg e, if_neg (by intro h; exact e (Option.some.inj h).symm), h2]
    · intro x
      rw [GD_new T hc hi hD x]
      by_cases hx : x ∈ EF i
      · rw [if_pos hx, r5 x hx]
      · rw [if_neg hx, r6 x hx, h4]
    · intro id hid
      rcases p4 id hid with h | ⟨g1, g2⟩
      · rcases h7 id h with h | ⟨j, j1, j2, j3⟩
        · exact .inl h
        · exact .inr ⟨j, j1, by simp [D1, j2], j3⟩
      · exact .inr ⟨i, hi, by simp [D1], g1, g2⟩)
  split
  · rename_i hw; rw [if_pos hw] at key; exact .inl key
  · rename_i hw; rw [if_neg hw] at key; exact key

theorem any_sound (T : Trace P tab ih ops pr F H N V RD EF) (S : Stat ops pr) (ht : TabOk P tab) (hn : ExN ih) (hl : LocE ih) (hcs : CallS P tab B w0 ih) (hsel : Region.noSelect ops = true) {mS : Map}
    (hfree : ∀ id, N 0 ≤ id → id < N ops.size → mS id = none) {Q : Exit → Act → World → Prop} (hQ : ∀ a w, Inv B w0 ops F H N V EF mS (fun _ => true) a w → Q .normal a w) :
    ∀ (fuel : Nat) (listed : Array Bool) (a : Act) (w : World), listed.size = ops.size → (∀ j, j < ops.size → listed.getD j false = true → ∀ x ∈ pr j, listed.getD x false = true) →
      cnt (fun j => listed.getD j false) ops.size ≤ fuel → Inv B w0 ops F H N V EF mS (fun j => listed.getD j false) a w → wpAny P .any ops Q fuel listed a w := by
  have hgd : ∀ (listed : Array Bool) (j : Nat), listed.size = ops.size → j < ops.size → listed.getD j true = listed.getD j false := by
    intro listed j h1 h2
    simp [Array.getD_eq_getD_getElem?, show j < listed.size from by omega]
  have alldone : ∀ (listed : Array Bool) (a : Act) (w : World), (∀ j, j < ops.size → listed.getD j false = true) → Inv B w0 ops F H N V EF mS (fun j => listed.getD j false) a w → Q .normal a w :=
    fun listed a w h I => hQ a w (I.ext fun j hj => h j hj)
  have ready_nil : ∀ (listed : Array Bool), listed.size = ops.size → Region.ready .any ops listed = [] → ∀ j, j < ops.size → listed.getD j false = true := by
    intro listed hsz hr j
    induction j using Nat.strongRecOn with
    | _ j ihj =>
      intro hj
      cases hd : listed.getD j false with
      | true => rfl
      | false =>
        exfalso
        obtain ⟨o, ho⟩ := getSome (ops := ops) hj
        have : j ∈ Region.ready .any ops listed := by
          rw [mem_ready]
          refine ⟨by rw [hgd listed j hsz hj, hd], o, ho, fun e he hb => ?_⟩
          have hlt := S.lt j hj e.on (S.has j o ho e he hb)
          exact ihj e.on hlt (by omega)
        rw [hr] at this
        cases this
  intro fuel
  induction fuel with
  | zero =>
    intro listed a w hsz hc hcnt I
    have hall := cnt_zero (Nat.le_zero.1 hcnt)
    refine ⟨?_, alldone listed a w hall I⟩
    cases hr : Region.ready .any ops listed with
    | nil => rfl
    | cons x l =>
      exfalso
      have : x ∈ Region.ready .any ops listed := by rw [hr]; simp
      rw [mem_ready] at this
      obtain ⟨h1, o, ho, _⟩ := this
      have hlt : x < ops.size := (Array.getElem?_eq_some_iff.1 ho).1
      rw [hgd listed x hsz hlt, hall x hlt] at h1
      cases h1
  | succ fuel ihf =>
    intro listed a w hsz hc hcnt I
    refine ⟨fun hr => alldone listed a w (ready_nil listed hsz hr) I, fun i hi => ?_⟩
    rw [mem_ready] at hi
    obtain ⟨h1, o, ho, h3⟩ := hi
    have hlt : i < ops.size := (Array.getElem?_eq_some_iff.1 ho).1
    rw [hgd listed i hsz hlt] at h1
    have hp : ∀ x ∈ pr i, listed.getD x false = true := by
      intro x hx
      obtain ⟨e, he, hb, hor⟩ := S.from' i o ho x hx
      have hel := h3 e he hb
      rcases hor with hor | hor
      · rw [hor]; exact hel
      · have : e.on < i := S.lt i hlt e.on (S.has i o ho e he hb)
        exact hc e.on (by omega) hel x hor
    have hset : ∀ j, (listed.setIfInBounds i true).getD j false = D1 (fun j => listed.getD j false) i j := by
      intro j
      simp only [D1, Array.getD_eq_getD_getElem?, Array.getElem?_setIfInBounds]
      by_cases e : i = j
      · subst e; simp [show i < listed.size from by omega]
      · rw [if_neg e]; simp [Ne.symm e]
    refine Inv.step T S ht hn hl hcs hsel hfree hc ho hlt h1 hp I fun a' w' I' => ?_
    refine ihf _ a' w' (by simp [hsz]) ?_ ?_ (I'.ext fun j _ => (hset j).symm)
    · intro j hj hjt x hx
      rw [hset] at hjt ⊢
      simp only [D1, Bool.or_eq_true, beq_iff_eq] at hjt ⊢
      left
      rcases hjt with h | h
      · exact hc j hj h x hx
      · subst h; exact hp x hx
    · rw [cnt_ext (fun j _ => hset j)]
      have := cnt_D1 (D := fun j => listed.getD j false) h1 ops.size
      rw [if_pos hlt] at this
      omega

theorem draw_sound (ht : TabOk P tab) (hmix : P.follows .mixedOrders = true) {ih : Ex} (hn : ExN ih) (hl : LocE ih) (hcs : CallS P tab B w0 ih) : DrawS P tab B w0 ih := by
  intro ops prs f f1 rl wl hh n s1 m0 n0 m w a hst hrun FRa hd R hs hm hle hfree id
  obtain ⟨S, hlen⟩ := stat_of hst
  have hsel : Region.noSelect ops = true := by
    unfold statOf at hst
    split at hst
    · rename_i hb; rw [Bool.and_eq_true] at hb; exact hb.1
    · cases hst
  obtain ⟨F, H, N, V, RD, EF, T, t1, t2, t3, t4, t5, t6⟩ := trace_of hrun
  subst t1 t2 t3
  refine wp_region_any hmix ?_
  have hmono := T.mono hn (Nat.zero_le ops.size) (Nat.le_refl _)
  refine any_sound (mS := m) T S ht hn hl hcs hsel ?_ ?_ ops.size _ a _ (by simp) ?_ ?_ ?_
  · intro i h1 h2
    cases hmi : m i with
    | none => rfl
    | some y =>
      rcases hm i (by rw [hmi]; simp) with h | h
      · exact absurd (hfree i (by omega) (by rw [← t6]; omega)) h
      · omega
  · intro a' w' I
    obtain ⟨hd', fD, h', m', h1, h2, h3, h4, h5, h6, h7⟩ := I
    refine ⟨rfl, hd', m', hs.trans h5, ?_, ?_, ?_⟩
    · refine h6.congr fun x => ?_
      rw [h4, GD_all T hl _ (Nat.le_refl _), t5]
    · refine ⟨by rw [h3.n, h1, ← t4, T.fn _ (Nat.le_refl _)], fun t => ?_⟩
      have := h3.v t
      rw [h2, TD_all T _ (Nat.le_refl _), t4] at this
      exact this
    · intro i hi
      rcases h7 i hi with h | ⟨j, j1, _, j3, j4⟩
      · rcases hm i h with h | h
        · exact .inl h
        · right; rw [← t6]; omega
      · right
        have g1 := T.mono hn (Nat.zero_le j) (by omega)
        have g2 := T.mono hn (by omega : j + 1 ≤ ops.size) (Nat.le_refl _)
        rw [← t6]; omega
  · intro j hj hjt
    simp [Array.getD_eq_getD_getElem?, hj] at hjt
  · have : ∀ (D : Nat → Bool) k, cnt D k ≤ k := by
      intro D k
      induction k with
      | zero => exact Nat.le_refl _
      | succ k ihk => unfold cnt; split <;> omega
    exact this _ _
  · have hz : ∀ j, (Array.replicate ops.size false).getD j false = false := by
      intro j
      simp only [Array.getD_eq_getD_getElem?, Array.getElem?_replicate]
      split <;> rfl
    refine ⟨hd, F 0, H 0, m, rfl, fun t => ?_, FRa, fun x => ?_, Sub.refl m, R.drew, fun i hi => .inl hi⟩
    · have : ∀ k, TD ops F V (fun j => (Array.replicate ops.size false).getD j false) k t = (F 0).get t := by
        intro k
        induction k with
        | zero => rfl
        | succ k ihk => unfold TD; rw [hz, if_neg (by simp), ihk]
      exact (this _).symm
    · have : ∀ k, GD H EF (fun j => (Array.replicate ops.size false).getD j false) k x = (H 0).get x := by
        intro k
        induction k with
        | zero => rfl
        | succ k ihk => unfold GD; rw [hz, if_neg (by simp), ihk]
      exact (this _).symm

/-- THE EXECUTOR IS SOUND: a call that it runs returns what it says, in whatever world; nothing that was there is turned. -/
theorem runF_sound (ht : TabOk P tab) (hmix : P.follows .mixedOrders = true) {fuel : Nat} {g : FuncId} {args args' : List Value} {v : Value} {s1 : St} (h : runF P tab fuel g args = some (v, s1))
    (hargs : VRs (fun _ => none) args args') (w : World) : Calls P g ⟨args'⟩ w fun e w' => ∃ v', e = .returned v' ∧ (∃ m, VR m v v') ∧ RowKit.Below w.heap.size w w' := by
  have hex := exec_sound (B := w.heap.size) (w0 := w) ht (fun n hn => draw_sound ht hmix (exec_n n) (exec_loc n) (call_sound ht (exec_n n) hn)) fuel
  have hc := call_sound ht (exec_n fuel) hex
  have R : Rel w.heap.size w (fun _ => none) (T.nil : T Row) w := ⟨fun i r hi => (by cases hi), fun i j r r' b f t b' f' t' _ hi => (by cases hi), RowKit.Below.refl _ _, Nat.le_refl _⟩
  refine (hc g args args' _ v s1 _ w h hargs R (fun i _ _ => rfl)).mono fun e w' he => ?_
  obtain ⟨v', h1, m', h2, h3, h4, h5⟩ := he
  exact ⟨v', h1, ⟨m', h4⟩, h3.below⟩

end
end Go.Ax
