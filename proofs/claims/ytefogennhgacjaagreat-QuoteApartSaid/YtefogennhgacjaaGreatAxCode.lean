/- AX: code. -/
import Derived.Test.YtefogennhgacjaaGreatAxRun
namespace Go.Ax
set_option linter.unusedSimpArgs false
set_option linter.unusedVariables false
open Go

section
variable {P : Program} {tab : Tab} {B : Nat} {w0 : World}

/-- One operation, as the region's lists have it. -/
theorem one_sound (ht : TabOk P tab) {ih : Ex} (hc : CallS P tab B w0 ih) {ops : Array Oper} {o : Oper} {f : AF} {a : Act} {m : Map} {s s1 : St} {v : Value} {w : World}
    (h : runOne P tab ih ops.toList o f s = some (v, s1)) (F : FR m f a) (R : Rel B w0 m s.h w) (hfree : ∀ i, s.n ≤ i → i < s1.n → m i = none)
    {next : Act → World → Prop} {Q : Exit → Act → World → Prop} (hnext : ∀ v' w', Post B w0 m s.n v s1 v' w' → next (a.put o.dst v') w') :
    if Region.wanted o (yielded ops a.tmps) then o.wp P a w next Q else next (a.put o.dst undef) w := by
  rw [wanted_eq F ops o]
  unfold runOne at h
  split at h
  · rename_i hw
    rw [if_pos hw]
    have plain : ∀ {op : Op}, o.op = op → (aOp P f op).run s = some (v, s1) → o.wp P a w next Q := by
      intro op hop h
      subst hop
      obtain ⟨v', w', h1, h2⟩ := sound_op F h R hfree
      unfold Oper.wp
      rcases h1 with h1 | ⟨h1, h3⟩
      · rw [h1]; exact hnext v' w' h2
      · subst h3; rw [h1]; exact hnext _ w' h2
    unfold runOper at h
    split at h
    · rename_i c hop
      split at h
      · exact plain hop (by rw [← hop]; exact h)
      · rename_i hnb
        split at h
        · rename_i g args htg
          have hcall : ∀ args w, (callFunc g args).run P w = .ok (.enter g args) w := by
            unfold callF at h
            split at h
            · rename_i hk
              exact (ht.2 _ _ _ hk).2.2.1
            · unfold callF0 at h
              split at h
              · cases h
              · rename_i hfn
                exact (ht.1 _ _ hfn).2
          obtain ⟨args', h1, h2⟩ := target_sound ht F hop hnb htg hcall w
          unfold Oper.wp
          rw [h1]
          refine Calls.mono (hc g args args' s v s1 m w h h2 R hfree) fun e w' he => ?_
          obtain ⟨v', he, hp⟩ := he
          subst he
          exact hnext v' w' hp
        · cases h
    · exact plain rfl h
  · rename_i hw
    rw [if_neg (by rw [hw]; simp)]
    cases h
    exact hnext undef w (.same R (VR.undef m))

theorem Post.rel {m : Map} {n : Nat} {v v' : Value} {s1 : St} {w' : World} (h : Post B w0 m n v s1 v' w') : ∃ m', Sub m m' ∧ Rel B w0 m' s1.h w' ∧ VR m' v v' ∧ ∀ i, m' i ≠ none → m i ≠ none ∨ (n ≤ i ∧ i < s1.n) := h

theorem put_defers (a : Act) (dst : Option Tmp) (v : Value) : (a.put dst v).defers = a.defers := by cases dst <;> rfl

/-- A list of operations, in order. -/
theorem ops_sound (ht : TabOk P tab) {ih : Ex} (hn : ExN ih) (hc : CallS P tab B w0 ih) {ops : Array Oper} {m0 : Map} {n0 : Nat} : ∀ {l : List Oper} {f f1 : AF} {a : Act} {m : Map} {s s1 : St} {w : World},
    execOps P tab ih ops.toList l f s = some (f1, s1) → FR m f a → a.defers = [] → Rel B w0 m s.h w → Sub m0 m → (∀ i, m i ≠ none → m0 i ≠ none ∨ (n0 ≤ i ∧ i < s.n)) → n0 ≤ s.n →
    (∀ i, n0 ≤ i → i < s1.n → m0 i = none) → wpList P ops (QP B w0 m0 n0 .normal f1 s1) l a w
  | [], f, f1, a, m, s, s1, w, h, F, hd, R, hs, hm, hle, hfree => by
    simp [execOps] at h
    obtain ⟨h1, h2⟩ := h
    subst h1 h2
    exact ⟨rfl, hd, m, hs, R, F, hm⟩
  | o :: l, f, f1, a, m, s, s1, w, h, F, hd, R, hs, hm, hle, hfree => by
    unfold execOps at h
    split at h
    · cases h
    · rename_i v s2 h1
      split at h
      · cases h
      · rename_i f2 hp
        have n1 := runOne_n hn h1
        have n2 := execOps_n hn h
        have hfree2 : ∀ i, s.n ≤ i → i < s2.n → m i = none := by
          intro i hi1 hi2
          cases hmi : m i with
          | none => rfl
          | some x =>
            rcases hm i (by rw [hmi]; simp) with h3 | h3
            · exact absurd (hfree i (by omega) (by omega)) h3
            · omega
        have key := one_sound ht hc (ops := ops) (o := o) (next := wpList P ops (QP B w0 m0 n0 .normal f1 s1) l) (Q := QP B w0 m0 n0 .normal f1 s1) h1 F R hfree2 (by
          intro v' w' hpost
          obtain ⟨m', p1, p2, p3, p4⟩ := hpost
          refine ops_sound ht hn hc h ((F.mono p1).put hp p3) (by rw [put_defers]; exact hd) p2 (hs.trans p1) ?_ (by omega) hfree
          intro i hi
          rcases p4 i hi with h3 | h3
          · rcases hm i h3 with h4 | h4
            · exact .inl h4
            · right; omega
          · right; omega)
        unfold wpList
        split
        · rename_i hw; rw [if_pos hw] at key; exact .inl key
        · rename_i hw; rw [if_neg hw] at key; exact key

/-- Code, as loops need it. -/
def WP (P : Program) (N : Nat) (c : Code) (Q : Exit → Act → World → Prop) (a : Act) (w : World) : Prop := match c with
  | .loop b => Code.rounds P b Q N a w
  | c => c.wp P Q a w

theorem WP.wp {N : Nat} {c : Code} {Q : Exit → Act → World → Prop} {a : Act} {w : World} (h : WP P N c Q a w) : c.wp P Q a w := by
  cases c <;> first | exact h | exact wp_loop_rounds N h

def ExS (P : Program) (B : Nat) (w0 : World) (N : Nat) (ex : Ex) : Prop := ∀ c f s x f1 s1 m0 n0 m w a, ex c f s = some (x, f1, s1) → FR m f a → a.defers = [] → Rel B w0 m s.h w → Sub m0 m →
  (∀ i, m i ≠ none → m0 i ≠ none ∨ (n0 ≤ i ∧ i < s.n)) → n0 ≤ s.n → (∀ i, n0 ≤ i → i < s1.n → m0 i = none) → WP P N c (QP B w0 m0 n0 x f1 s1) a w

/-- What a region that draws its order comes to (proved elsewhere). -/
def DrawS (P : Program) (tab : Tab) (B : Nat) (w0 : World) (ih : Ex) : Prop := ∀ (ops : Array Oper) prs f f1 rl wl hh n s1 m0 n0 m w a, statOf ops = some prs → execDraw P tab ih ops.toList rl wl ops.toList 0 prs [] f hh n = some (f1, s1) →
  FR m f a → a.defers = [] → Rel B w0 m hh w → Sub m0 m →
  (∀ i, m i ≠ none → m0 i ≠ none ∨ (n0 ≤ i ∧ i < n)) → n0 ≤ n → (∀ i, n0 ≤ i → i < s1.n → m0 i = none) → ∀ id, (Code.region id ops true).wp P (QP B w0 m0 n0 .normal f1 s1) a w

theorem QP.out {m0 : Map} {n0 : Nat} {x : X} {f1 : AF} {s1 : St} {e : Exit} {a : Act} {w : World} (h : QP B w0 m0 n0 x f1 s1 e a w) :
    e = toExit x ∧ a.defers = [] ∧ ∃ m', Sub m0 m' ∧ Rel B w0 m' s1.h w ∧ FR m' f1 a ∧ ∀ i, m' i ≠ none → m0 i ≠ none ∨ (n0 ≤ i ∧ i < s1.n) := h

theorem step_sound (ht : TabOk P tab) {ih : Ex} {N : Nat} (hn : ExN ih) (hih : ExS P B w0 N ih) (hc : CallS P tab B w0 ih) (hdr : DrawS P tab B w0 ih) : ExS P B w0 (N + 1) (stepCode P tab ih) := by
  intro c f s x f1 s1 m0 n0 m w a h F hd R hs hm hle hfree
  have base : f1 = f → s1 = s → QP B w0 m0 n0 x f1 s1 (toExit x) a w := by
    intro h1 h2
    subst h1 h2
    exact ⟨rfl, hd, m, hs, R, F, hm⟩
  cases c <;> simp only [stepCode] at h
  case skip => cases h; exact wp_skip (base rfl rfl)
  case label => cases h; exact wp_label (base rfl rfl)
  case exit => cases h; exact wp_exit (base rfl rfl)
  case ret => cases h; exact wp_ret (base rfl rfl)
  case goto => cases h
  case refuse => cases h
  case rangeFunc => cases h
  case scope b =>
    have := (hih _ _ _ _ _ _ m0 n0 _ _ _ h F hd R hs hm hle hfree).wp
    refine wp_scope_straight (wp_mono this fun e a w hq => ?_)
    have he := hq.out.1
    cases x <;> (subst he; exact hq)
  case seq p q =>
    split at h
    · rename_i f2 s2 h1
      have n1 := hn _ _ _ _ _ _ h1
      have n2 := hn _ _ _ _ _ _ h
      have := (hih _ _ _ _ _ _ m0 n0 _ _ _ h1 F hd R hs hm hle (fun i hi1 hi2 => hfree i hi1 (by omega))).wp
      refine wp_seq (wp_mono this fun e a' w' hq => ?_)
      obtain ⟨he, hd', m', q1, q2, q3, q4⟩ := hq
      subst he
      exact (hih _ _ _ _ _ _ m0 n0 _ _ _ h q3 hd' q2 q1 q4 (by omega) hfree).wp
    · rename_i hne
      have := (hih _ _ _ _ _ _ m0 n0 _ _ _ h F hd R hs hm hle hfree).wp
      refine wp_seq (wp_mono this fun e a' w' hq => ?_)
      have he := hq.out.1
      cases x with
      | normal => exact absurd h (hne _ _)
      | exit id => subst he; exact hq
      | ret => subst he; exact hq
  case cond c t e =>
    split at h
    · rename_i hb
      have hb := (F.eval hb).isBool rfl
      exact wp_cond_true hb (hih _ _ _ _ _ _ m0 n0 _ _ _ h F hd R hs hm hle hfree).wp
    · rename_i hb
      have hb := (F.eval hb).isBool rfl
      exact wp_cond_false hb (hih _ _ _ _ _ _ m0 n0 _ _ _ h F hd R hs hm hle hfree).wp
    · cases h
  case block id b =>
    split at h
    · rename_i id' f2 s2 h1
      split at h
      · rename_i hid
        cases h
        have hid := Nat.eq_of_beq_eq_true hid
        have := (hih _ _ _ _ _ _ m0 n0 _ _ _ h1 F hd R hs hm hle hfree).wp
        refine wp_block (wp_mono this fun e a' w' hq => ?_)
        obtain ⟨he, hq⟩ := hq
        subst he
        simp only [toExit, Exit.inBlock, hid, if_true]
        exact ⟨rfl, hq⟩
      · rename_i hid
        cases h
        have hid := Nat.ne_of_beq_eq_false hid
        have := (hih _ _ _ _ _ _ m0 n0 _ _ _ h1 F hd R hs hm hle hfree).wp
        refine wp_block (wp_mono this fun e a' w' hq => ?_)
        obtain ⟨he, hq⟩ := hq
        subst he
        simp only [toExit, Exit.inBlock, hid, if_false]
        exact ⟨rfl, hq⟩
    · rename_i hne
      have := (hih _ _ _ _ _ _ m0 n0 _ _ _ h F hd R hs hm hle hfree).wp
      refine wp_block (wp_mono this fun e a' w' hq => ?_)
      obtain ⟨he, hq⟩ := hq
      cases x with
      | normal => subst he; exact ⟨rfl, hq⟩
      | ret => subst he; exact ⟨rfl, hq⟩
      | exit id' => exact absurd h (hne _ _ _)
  case loop b =>
    split at h
    · rename_i f2 s2 h1
      have n1 := hn _ _ _ _ _ _ h1
      have n2 := hn _ _ _ _ _ _ h
      have hb := (hih _ _ _ _ _ _ m0 n0 _ _ _ h1 F hd R hs hm hle (fun i hi1 hi2 => hfree i hi1 (by omega))).wp
      show Code.rounds P b _ (N + 1) a w
      rw [rounds_succ]
      refine wp_mono hb fun e a' w' hq => ?_
      obtain ⟨he, hd', m', q1, q2, q3, q4⟩ := hq
      subst he
      exact hih _ _ _ _ _ _ m0 n0 _ _ _ h q3 hd' q2 q1 q4 (by omega) hfree
    · rename_i hne
      have hb := (hih _ _ _ _ _ _ m0 n0 _ _ _ h F hd R hs hm hle hfree).wp
      show Code.rounds P b _ (N + 1) a w
      rw [rounds_succ]
      refine wp_mono hb fun e a' w' hq => ?_
      have he := hq.out.1
      cases x with
      | normal => exact absurd h (hne _ _)
      | exit id => subst he; exact hq
      | ret => subst he; exact hq
  case region id ops d =>
    cases d
    · simp only [stepCode] at h
      split at h
      · rename_i f2 s2 h1
        cases h
        exact wp_region_list (ops_sound ht hn hc h1 F hd R hs hm hle hfree)
      · cases h
    · obtain ⟨hh, n, rl, wl⟩ := s
      simp only [stepCode] at h
      split at h
      · rename_i prs hst
        split at h
        · rename_i f2 s2 h1
          cases h
          exact hdr ops prs f _ rl wl hh n _ m0 n0 m w a hst h1 F hd R hs hm hle hfree id
        · cases h
      · cases h

theorem enter_get : ∀ (l : List Value) (n : Nat) (t : T Value) (i : Nat), (ofList l n t).get i = if n ≤ i ∧ i < n + l.length then l[i - n]? else t.get i
  | [], n, t, i => by
    simp only [ofList, List.length_nil, Nat.add_zero]
    rw [if_neg (by omega)]
  | v :: l, n, t, i => by
    simp only [ofList]
    rw [enter_get l (n + 1) _ i, T.get_set]
    simp only [List.length_cons]
    by_cases h1 : n + 1 ≤ i ∧ i < n + 1 + l.length
    · rw [if_pos h1, if_pos (by omega)]
      rw [show i - n = (i - (n + 1)) + 1 from by omega]
      simp
    · rw [if_neg h1]
      by_cases h2 : i = n
      · subst h2
        rw [if_pos rfl, if_pos (by omega)]
        simp
      · rw [if_neg h2, if_neg (by omega)]

theorem enter_sound {m : Map} {fn : Func} {args args' : List Value} (h : VRs m args args') : FR m (enterA fn args) { tmps := ⟨args'⟩ ++ Array.replicate (fn.ntmps - args'.length) undef, defers := [] } := by
  have hl := h.length
  refine ⟨by simp [enterA, hl], fun i => ?_⟩
  unfold AF.get enterA
  dsimp only
  rw [enter_get]
  rw [Array.getD_eq_getD_getElem?, Array.getElem?_append]
  simp only [Nat.zero_le, true_and, Nat.zero_add, Nat.sub_zero, List.size_toArray]
  by_cases hi : i < args.length
  · rw [if_pos hi, if_pos (by show i < args'.length; omega)]
    obtain ⟨v', hv', hr⟩ := h.nth i hi
    have : (⟨args'⟩ : Array Value)[i]? = some v' := by rw [← Array.getElem?_toList]; exact hv'
    rw [this]
    simp only [List.getElem?_eq_getElem hi, Option.getD_some]
    exact hr
  · rw [if_neg hi, if_neg (by show ¬ i < args'.length; omega)]
    rw [T.get_nil]
    dsimp only
    have : ((Array.replicate (fn.ntmps - args'.length) undef)[i - args'.length]?).getD undef = undef := by
      rw [Array.getElem?_replicate]
      split <;> rfl
    rw [this]
    exact VR.undef m

theorem sound_load0 {m : Map} (t : TypeId) {a a' : Value} (ha : VR m a a') {s s1 : St} {v : Value} {w : World} (h : (aLoad P t a).run s = some (v, s1)) (r : Rel B w0 m s.h w) :
    (∃ v', (Instr.loadAt t a').run P w = .ok v' w ∧ VR m v v') ∧ s1.h = s.h ∧ s1.n = s.n := by
  unfold aLoad at h
  split at h
  · rename_i i o
    cases ha with
    | ptr hm =>
      rename_i b f t'
      split at h
      · rename_i hag
        have hag := pv_run hag w
        split at h
        · rename_i n hsz
          have hsz := pv_run hsz w
          obtain ⟨l, s2, h1, h2⟩ := run_bind_some h
          obtain ⟨h3, h4⟩ := run_ret h2
          subst h3 h4
          obtain ⟨e1, e2, c, hg, hl⟩ := run_ldCells h1
          obtain ⟨b', f', t2, l', q1, q2, q3⟩ := r.cells hg hl
          rw [hm] at q1; cases q1
          exact ⟨⟨.agg ⟨l'⟩, by simp [Instr.loadAt, Instr.sureAddr, loadVar, hag, hsz, q2 P w rfl], .agg q3⟩, e1, e2⟩
        · exact (run_fail h).elim
      · rename_i hag
        have hag := pv_run hag w
        obtain ⟨l, s2, h1, h2⟩ := run_bind_some h
        obtain ⟨e1, e2, c, hg, hl⟩ := run_ldCells h1
        obtain ⟨b', f', t2, l', q1, q2, q3⟩ := r.cells hg hl
        rw [hm] at q1; cases q1
        split at h2
        · rename_i u
          obtain ⟨h3, h4⟩ := run_ret h2
          subst h3 h4
          cases q3 with
          | cons q4 q5 =>
            cases q5
            rename_i u'
            refine ⟨⟨u', ?_, q4⟩, e1, e2⟩
            have := q2 P w rfl
            simp only [loadCells, loadCellsFrom, Sem.run_bind, Sem.run_pure] at this
            have ha : (⟨b, f + o, none⟩ : Addr).add 0 = ⟨b, f + o, none⟩ := by simp [Addr.add]
            rw [ha] at this
            simp only [Instr.loadAt, Instr.sureAddr, loadVar, Sem.run_bind, Sem.run_pure, Result.andThen_ok, hag, Bool.false_eq_true, if_false]
            cases hq : (load ⟨b, f + o, none⟩).run P w with
            | ok x y =>
              rw [hq] at this
              simp at this
              obtain ⟨rfl, rfl⟩ := this
              rfl
            | halt x y => rw [hq] at this; simp at this
        · exact (run_fail h2).elim
      · exact (run_fail h).elim
  · exact (run_fail h).elim

theorem results_sound {m : Map} {f : AF} {a : Act} {w : World} (F : FR m f a) : ∀ {l : List ResultVar} {s s1 : St} {vs : List Value}, Rel B w0 m s.h w → resultsA P f l s = some (vs, s1) →
    (∃ vs', (l.mapM (m := Sem) (β := Value) (fun (r : ResultVar) => match r with | .tmp t => pure (a.tmps.getD t undef) | .cell x t => do loadVar t (← asAddr (a.tmps.getD x undef)))).run P w = Result.ok vs' w ∧ VRs m vs vs') ∧
      s1.h = s.h ∧ s1.n = s.n
  | [], s, s1, vs, R, h => by
    simp [resultsA] at h
    obtain ⟨h1, h2⟩ := h
    subst h1 h2
    exact ⟨⟨[], by simp, .nil⟩, rfl, rfl⟩
  | .tmp t :: l, s, s1, vs, R, h => by
    simp only [resultsA] at h
    split at h
    · rename_i vs2 s2 h2
      cases h
      obtain ⟨⟨vs', h3, h4⟩, e1, e2⟩ := results_sound F R h2
      refine ⟨⟨a.tmps.getD t undef :: vs', ?_, .cons (F.v t) h4⟩, e1, e2⟩
      simp only [List.mapM_cons, Sem.run_bind, Sem.run_pure, Result.andThen_ok]
      rw [h3]
      rfl
    · cases h
  | .cell x t :: l, s, s1, vs, R, h => by
    simp only [resultsA] at h
    split at h
    · rename_i v s2 h1
      split at h
      · rename_i vs2 s3 h2
        cases h
        have hx := F.v x
        have hptr : ∃ ad, a.tmps.getD x undef = .pointer (some ad) := by
          generalize hv : f.get x = fx at *
          unfold aLoad at h1
          split at h1
          · generalize a.tmps.getD x undef = ax at *
            cases hx; exact ⟨_, rfl⟩
          · exact (run_fail h1).elim
        obtain ⟨ad, had⟩ := hptr
        obtain ⟨⟨v', k1, k2⟩, k3, k4⟩ := sound_load0 (P := P) t hx h1 R
        obtain ⟨⟨vs', h3, h4⟩, e1, e2⟩ := results_sound F (by rw [k3]; exact R) h2
        refine ⟨⟨v' :: vs', ?_, .cons k2 h4⟩, by rw [e1, k3], by rw [e2, k4]⟩
        rw [had] at k1
        have k5 : (loadVar t ad).run P w = .ok v' w := by simpa [Instr.loadAt, Instr.sureAddr] using k1
        have hasa : asAddr (a.tmps.getD x undef) = pure ad := by rw [had]; rfl
        simp only [List.mapM_cons, Sem.run_bind, hasa, Sem.run_pure, Result.andThen_ok, k5]
        rw [h3]
        rfl
      · cases h
    · cases h

theorem one_results {m : Map} {vs vs' : List Value} (h : VRs m vs vs') : VR m (one vs) (if hs : (⟨vs'⟩ : Array Value).size = 1 then (⟨vs'⟩ : Array Value)[0] else .tuple ⟨vs'⟩) := by
  cases h with
  | nil => exact .tuple .nil
  | cons h hl =>
    cases hl with
    | nil => simpa [one] using h
    | cons h2 hl2 =>
      rw [dif_neg (by simp)]
      exact .tuple (.cons h (.cons h2 hl2))

theorem Rel.grown {m : Map} {h : T Row} {w w' : World} (r : Rel B w0 m h w) (b : RowKit.Below w.heap.size w w') : Rel B w0 m h w' :=
  ⟨fun i x hx => by
    obtain ⟨b1, f, t, h1, h2, h3⟩ := r.row i x hx
    exact ⟨b1, f, t, h1, h2, h3.block (b.block _ h3.lt)⟩, r.inj, r.below.trans (b.mono r.size), Nat.le_trans r.size b.size⟩

/-- A call, from what its body comes to. -/
theorem call_sound (ht : TabOk P tab) {ih : Ex} {N : Nat} (hn : ExN ih) (hih : ExS P B w0 N ih) : CallS P tab B w0 ih := by
  intro g args args' s v s1 m w h hargs R hfree
  have fin : ∀ {fn : Func} {c : Code} {x : X} {f1 : AF} {s2 : St} {vs : List Value}, P.funcs[g]? = some fn → fn.body = some c → (x = .normal ∨ x = .ret) → ih c (enterA fn args) s = some (x, f1, s2) →
      resultsA P f1 fn.results.toList s2 = some (vs, s1) → v = one vs → Calls P g ⟨args'⟩ w fun e w' => ∃ v', e = .returned v' ∧ Post B w0 m s.n v s1 v' w' := by
    intro fn c x f1 s2 vs hfn hbody hx hrun hres hv
    subst hv
    have hle := resultsA_n hres
    have hwp := (hih _ _ _ _ _ _ m s.n m w _ hrun (enter_sound hargs) rfl R (Sub.refl m) (fun i hi => .inl hi) (Nat.le_refl _) (fun i h1 h2 => hfree i h1 (by omega))).wp
    refine calls_of_wp hfn hbody (wp_mono hwp fun e a' w' hq => ?_)
    obtain ⟨he, hd', m', q1, q2, q3, q4⟩ := hq
    obtain ⟨⟨vs', r1, r2⟩, r3, r4⟩ := results_sound (P := P) q3 q2 hres
    have hr : (results fn a'.tmps).run P w' = .ok (if hs : (⟨vs'⟩ : Array Value).size = 1 then (⟨vs'⟩ : Array Value)[0] else .tuple ⟨vs'⟩) w' := by
      unfold results
      simp only [Sem.run_bind]
      rw [Array.mapM_eq_mapM_toList]
      simp only [Sem.run_map]
      erw [r1]
      rfl
    have hpost : Post B w0 m s.n (one vs) s1 (if hs : (⟨vs'⟩ : Array Value).size = 1 then (⟨vs'⟩ : Array Value)[0] else .tuple ⟨vs'⟩) w' := ⟨m', q1, by rw [r3]; exact q2, one_results r2, fun i hi => by rw [r4]; exact q4 i hi⟩
    rcases hx with hx | hx
    · subst hx; subst he
      exact ⟨hd', _, hr, _, rfl, hpost⟩
    · subst hx; subst he
      exact ⟨hd', _, hr, _, rfl, hpost⟩
  unfold callF at h
  split at h
  · rename_i v1 hk
    cases h
    obtain ⟨k1, k2, -, k3⟩ := ht.2 _ _ _ hk
    have := VRs.eq_of_closed k2 hargs
    subst this
    refine (k3 w).mono fun e w' he => ?_
    exact ⟨_, he.1, m, Sub.refl m, R.grown he.2, VR.of_closed m _ k1, fun i hi => .inl hi⟩
  unfold callF0 at h
  split at h
  · cases h
  · rename_i fn hfn
    have hfn := (ht.1 g fn hfn).1
    split at h
    · cases h
    · rename_i c hc
      split at h
      · rename_i f2 s2 h1
        split at h
        · rename_i vs s3 hvs
          cases h
          exact fin hfn hc (.inl rfl) h1 hvs rfl
        · cases h
      · rename_i f2 s2 h1
        split at h
        · rename_i vs s3 hvs
          cases h
          exact fin hfn hc (.inr rfl) h1 hvs rfl
        · cases h
      · cases h

theorem exec_sound (ht : TabOk P tab) (hdr : ∀ (n : Nat), ExS P B w0 n (exec P tab n) → DrawS P tab B w0 (exec P tab n)) (n : Nat) : ExS P B w0 n (exec P tab n) := by
  induction n with
  | zero => intro c f s x f1 s1 m0 n0 m w a h; simp [exec] at h
  | succ n ih =>
    intro c f s x f1 s1 m0 n0 m w a h
    exact step_sound ht (exec_n n) ih (call_sound ht (exec_n n) ih) (hdr n ih) c f s x f1 s1 m0 n0 m w a h

end
end Go.Ax
