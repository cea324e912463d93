/- AX: every operation that is no call of a function is the model's. -/
import Derived.Test.YtefogennhgacjaaGreatAxSoundM
import Derived.BigFrame
namespace Go.Ax
set_option linter.unusedSimpArgs false
set_option linter.unusedVariables false
open Go

section
variable {P : Program} {B : Nat} {w0 : World} {m : Map}

theorem FR.evalO {f : AF} {a : Act} (h : FR m f a) {x : Option Operand} {v : Option Value} (hx : evalO f x = some v) : VRO m v (x.map a.eval) := by
  cases x with
  | none => simp [Ax.evalO] at hx; subst hx; exact .none
  | some x =>
    simp only [Ax.evalO] at hx
    split at hx
    · rename_i v' hv; cases hx; exact .some (h.eval hv)
    · cases hx

theorem FR.parts {f : AF} {a : Act} (h : FR m f a) : ∀ {l : List (Nat × Operand)} {vs : List Value}, Ax.evals f (l.map (·.2)) = some vs → Parts m ((l.map (·.1)).zip vs) (l.map fun (x : Nat × Operand) => (x.1, a.eval x.2))
  | [], vs, e => by simp [Ax.evals] at e; subst e; exact .nil
  | x :: l, vs, e => by
    simp only [List.map_cons, Ax.evals] at e
    split at e
    · cases e
    · rename_i v hv
      split at e
      · cases e
      · rename_i vs' hvs
        cases e
        simp only [List.map_cons, List.zip_cons_cons]
        exact .cons _ (h.eval hv) (h.parts hvs)

/-- What an operation comes to. -/
def Comes1 (P : Program) (y : Sem Next) (B : Nat) (w0 : World) (m : Map) (n : Nat) (v : Value) (s1 : St) (w : World) : Prop :=
  ∃ v' w', (y.run P w = .ok (.value v') w' ∨ (y.run P w = .ok .skip w' ∧ v' = undef)) ∧ Post B w0 m n v s1 v' w'

theorem Comes1.of {y : Sem Value} {n : Nat} {v : Value} {s1 : St} {w : World} (h : ∃ v' w', y.run P w = .ok v' w' ∧ Post B w0 m n v s1 v' w') :
    Comes1 P (do pure (.value (← y))) B w0 m n v s1 w := by
  obtain ⟨v', w', h1, h2⟩ := h
  exact ⟨v', w', .inl (by simp [h1]), h2⟩

theorem Comes1.pure {y : Sem Value} {s s1 : St} {o : Option Value} {v : Value} {w : World} (h : (A.ofOpt o).run s = some (v, s1)) (R : Rel B w0 m s.h w)
    (hy : ∀ v, o = some v → ∃ v', y.run P w = .ok v' w ∧ VR m v v') : Comes1 P (do Pure.pure (.value (← y))) B w0 m s.n v s1 w := by
  obtain ⟨h1, h2⟩ := run_ofOpt h
  subst h2
  obtain ⟨v', h3, h4⟩ := hy v h1
  exact .of ⟨v', w, h3, .same R h4⟩

theorem VRO.closed {x x' : Option Value} (hx : VRO m x x') (hc : closedO x = true) : x' = x := by
  cases hx with
  | none => rfl
  | some h => rw [VR.eq_of_closed hc h]

theorem VR.isBool {x x' : Value} (hx : VR m x x') {b : Bool} (h : x = .bool b) : x' = .bool b := by subst h; cases hx; rfl

theorem VRs.one {x : Value} {l' : List Value} (h : VRs m [x] l') : ∃ x', l' = [x'] ∧ VR m x x' := by
  cases h with
  | cons h hl => cases hl; exact ⟨_, rfl, h⟩

theorem VRs.two {x y : Value} {l' : List Value} (h : VRs m [x, y] l') : ∃ x' y', l' = [x', y'] ∧ VR m x x' ∧ VR m y y' := by
  cases h with
  | cons h hl =>
    obtain ⟨y', rfl, hy⟩ := hl.one
    exact ⟨_, y', rfl, h, hy⟩

theorem sound_cap {tys : List TypeId} {x x' : Value} {ty : TypeId} {v : Value} {s s1 : St} {w : World} (hx : VR m x x')
    (h : (aBuiltin P .cap tys [x]).run s = some (v, s1)) (R : Rel B w0 m s.h w) :
    ∃ v' w', (Builtin.cap_ ⟨tys⟩ ty ⟨[x']⟩).run P w = .ok v' w' ∧ Post B w0 m s.n v s1 v' w' := by
  simp only [aBuiltin] at h
  split at h
  · split at h
    · rename_i e he
      have hu := elemOfSlice_spec he w
      obtain ⟨h1, h2⟩ := run_ret h
      subst h1 h2
      cases hx
      exact ⟨_, w, by simp [Builtin.cap_, hu, goInt], .same R (.int _ _)⟩
    · exact (run_fail h).elim
  · split at h
    · rename_i e he
      have hu := elemOfSlice_spec he w
      obtain ⟨h1, h2⟩ := run_ret h
      subst h1 h2
      cases hx
      · exact ⟨_, w, by simp [Builtin.cap_, hu, goInt], .same R (.int _ _)⟩
      · exact ⟨_, w, by simp [Builtin.cap_, hu, goInt], .same R (.int _ _)⟩
    · exact (run_fail h).elim
  · exact (run_fail h).elim

theorem builtin_of {b : Builtin} {tys : List TypeId} {args : List Value} {args' : Array Value} {ty : TypeId} {cs : Array Bool} {v : Value} {s s1 : St} {w : World} {y : Sem Next}
    (hy : y = builtin b ⟨tys⟩ ty cs args') (h : (aBuiltin P b tys args).run s = some (v, s1)) (hvs : VRs m args args'.toList) (R : Rel B w0 m s.h w) (hfree : ∀ i, s.n ≤ i → i < s1.n → m i = none) :
    Comes1 P y B w0 m s.n v s1 w := by
  subst hy
  have hargs : ∀ l, args'.toList = l → args' = ⟨l⟩ := fun l e => by apply Array.ext'; exact e
  unfold aBuiltin at h
  split at h
  · rename_i x
    obtain ⟨x', e, hx⟩ := hvs.one
    rw [hargs _ e]
    cases tys with
    | nil => exact (run_fail h).elim
    | cons t rest =>
      obtain ⟨v', k1, k2, k3, k4⟩ := sound_len (ty := ty) hx h R
      exact .of ⟨v', w, k1, .same (by rw [k3]; exact R) k2⟩
  · rename_i x
    obtain ⟨x', e, hx⟩ := hvs.one
    rw [hargs _ e]
    exact .of (sound_cap hx h R)
  · rename_i x z
    obtain ⟨x', z', e, hx, hz⟩ := hvs.two
    rw [hargs _ e]
    exact .of (sound_builtin_append hx hz h R hfree)
  · rename_i x z
    obtain ⟨x', z', e, hx, hz⟩ := hvs.two
    rw [hargs _ e]
    exact .of (sound_copy hx hz h R)
  · refine .pure h R fun v hv => ?_
    split at hv
    · rename_i hc
      have := VRs.eq_of_closed hc hvs
      rw [hargs _ this]
      obtain ⟨h1, h2⟩ := closed_ofPv hv
      exact ⟨v, pv_run h1 w, VR.of_closed m v h2⟩
    · cases hv
  · refine .pure h R fun v hv => ?_
    split at hv
    · rename_i hc
      have := VRs.eq_of_closed hc hvs
      rw [hargs _ this]
      obtain ⟨h1, h2⟩ := closed_ofPv hv
      exact ⟨v, pv_run h1 w, VR.of_closed m v h2⟩
    · cases hv
  · rename_i x
    obtain ⟨x', e, hx⟩ := hvs.one
    rw [hargs _ e]
    exact .of (sound_clear hx h R)
  · exact (run_fail h).elim

set_option maxHeartbeats 1000000 in
theorem sound_op {f : AF} {a : Act} (F : FR m f a) {o : Oper} {v : Value} {s s1 : St} {w : World} (h : (aOp P f o.op).run s = some (v, s1)) (R : Rel B w0 m s.h w) (hfree : ∀ i, s.n ≤ i → i < s1.n → m i = none) :
    Comes1 P (execOp a.eval o) B w0 m s.n v s1 w := by
  obtain ⟨dst, op, type, pos, after, guard⟩ := o
  cases op
  case move x =>
    obtain ⟨h1, h2⟩ := run_ofOpt h
    subst h2
    exact ⟨a.eval x, w, .inl rfl, .same R (F.eval h1)⟩
  case assign x =>
    obtain ⟨h1, h2⟩ := run_ofOpt h
    subst h2
    exact ⟨a.eval x, w, .inl rfl, .same R (F.eval h1)⟩
  case pick c x y =>
    simp only [aOp] at h
    split at h
    · rename_i hc
      obtain ⟨h1, h2⟩ := run_ofOpt h
      subst h2
      have hc := F.eval hc
      refine ⟨a.eval x, w, .inl ?_, .same R (F.eval h1)⟩
      have hcv := hc.isBool rfl
      simp [execOp, asBool, hcv]
    · rename_i hc
      obtain ⟨h1, h2⟩ := run_ofOpt h
      subst h2
      have hc := F.eval hc
      refine ⟨a.eval y, w, .inl ?_, .same R (F.eval h1)⟩
      have hcv := hc.isBool rfl
      simp [execOp, asBool, hcv]
    · exact (run_fail h).elim
  case alloc e => exact .of (sound_alloc e s v s1 w h R hfree)
  case box e x =>
    simp only [aOp] at h
    split at h
    · rename_i u hu
      exact .of (sound_box e (F.eval hu) s v s1 w h R hfree)
    · exact (run_fail h).elim
  case build t parts =>
    simp only [aOp] at h
    split at h
    · rename_i vs hvs
      refine .pure h R fun v hv => ?_
      obtain ⟨v', h1, h2⟩ := sound_build (F.parts hvs) hv w
      refine ⟨v', ?_, h2⟩
      rw [← h1]
      congr 2
      apply Array.ext'
      simp
    · exact (run_fail h).elim
  case buildSlice t n parts =>
    simp only [aOp] at h
    split at h
    · rename_i vs hvs
      obtain ⟨v', w', h1, h2⟩ := sound_buildSlice (F.parts hvs) s v s1 w h R hfree
      refine .of ⟨v', w', ?_, h2⟩
      rw [← h1]
      congr 2
      apply Array.ext'
      simp
    · exact (run_fail h).elim
  case load t x =>
    simp only [aOp] at h
    split at h
    · rename_i u hu
      exact .of (sound_load t (F.eval hu) s v s1 w h R hfree)
    · exact (run_fail h).elim
  case store t x y =>
    simp only [aOp] at h
    split at h
    · rename_i u z hu hz
      obtain ⟨_, s2, h1, h2⟩ := run_bind_some h
      obtain ⟨h3, h4⟩ := run_ret h2
      subst h3 h4
      obtain ⟨w', k1, k2, k3⟩ := sound_store t (F.eval hu) (F.eval hz) h1 R
      exact ⟨undef, w', .inr ⟨by simp [execOp, k1], rfl⟩, .same k2 (VR.undef m)⟩
    · exact (run_fail h).elim
  case nilCheck x =>
    simp only [aOp] at h
    split at h
    · rename_i u hu
      obtain ⟨h1, h2⟩ := run_ofOpt h
      subst h2
      have hu := F.eval hu
      obtain ⟨g1, g2, g3, g4, g5⟩ := sound_nilCheck hu h1
      subst g1
      refine ⟨a.eval x, w, .inl ?_, .same R hu⟩
      simp only [execOp]
      rfl
    · exact (run_fail h).elim
  case binOp op t x y yt =>
    simp only [aOp] at h
    split at h
    · rename_i u z hu hz
      exact .pure h R fun v hv => sound_bin (F.eval hu) (F.eval hz) hv w
    · exact (run_fail h).elim
  case unOp op t x =>
    simp only [aOp] at h
    split at h
    · rename_i u hu
      split at h
      · rename_i hc
        refine .pure h R fun v hv => ?_
        obtain ⟨h1, h2⟩ := closed_ofPv hv
        rw [VR.eq_of_closed hc (F.eval hu)]
        exact ⟨v, pv_run h1 w, VR.of_closed m v h2⟩
      · exact (run_fail h).elim
    · exact (run_fail h).elim
  case convert src dst x =>
    simp only [aOp] at h
    split at h
    · rename_i u hu
      split at h
      · rename_i hc
        refine .pure h R fun v hv => ?_
        obtain ⟨h1, h2⟩ := closed_ofPv hv
        rw [VR.eq_of_closed hc (F.eval hu)]
        exact ⟨v, pv_run h1 w, VR.of_closed m v h2⟩
      · exact (run_fail h).elim
    · exact (run_fail h).elim
  case makeInterface t x =>
    simp only [aOp] at h
    split at h
    · exact (run_fail h).elim
    · rename_i u d hni hu hd
      obtain ⟨h1, h2⟩ := run_ret h
      subst h1 h2
      exact .of ⟨_, w, sound_makeInterface hd (fun y hy => hni y hy) w, .same R (.iface t (F.eval hu))⟩
    · exact (run_fail h).elim
  case makeFunc fn first captured =>
    cases fn <;> simp only [aOp] at h <;> try exact (run_fail h).elim
    split at h
    · rename_i x y hx hy
      obtain ⟨h1, h2⟩ := run_ret h
      subst h1 h2
      refine .of ⟨_, w, rfl, .same R ?_⟩
      have e1 := F.evals hx
      have e2 := F.evals hy
      rw [← Array.toList_map] at e1 e2
      exact .func e1 e2
    · exact (run_fail h).elim
  case makeMap t r =>
    cases r <;> simp only [aOp] at h
    · exact .of (sound_makeMap t s v s1 w h R hfree)
    · exact (run_fail h).elim
  case makeSlice t l c =>
    simp only [aOp] at h
    split at h
    · rename_i x y hx hy
      exact .of (sound_makeSlice (F.eval hx) (F.eval hy) s v s1 w h R hfree)
    · exact (run_fail h).elim
  case slice t x lo hi mx =>
    simp only [aOp] at h
    split at h
    · rename_i u l hh c hu hl hhi hc
      have hu := F.eval hu
      have hl := F.evalO hl
      have hhi := F.evalO hhi
      have hc := F.evalO hc
      split at h
      · rename_i q
        refine .pure h R fun v hv => ?_
        split at hv
        · rename_i hcl
          simp only [Bool.and_eq_true] at hcl
          obtain ⟨h1, h2⟩ := closed_ofPv hv
          generalize a.eval x = xv at *
          cases hu
          rw [hl.closed hcl.1.1, hhi.closed hcl.1.2, hc.closed hcl.2]
          exact ⟨v, pv_run h1 w, VR.of_closed m v h2⟩
        · cases hv
      · split at h
        · rename_i e he
          split at h
          · rename_i sz hsz
            split at h
            · rename_i r _ hr
              obtain ⟨h1, h2⟩ := run_ret h
              subst h1 h2
              obtain ⟨r', k1, k2⟩ := sound_slice he hsz hu hl hhi hc hr w
              exact .of ⟨r', w, k1, .same R k2⟩
            · generalize hmx : mx.map a.eval = mxv at *
              cases hc
              obtain ⟨⟨r', k1, k2⟩, k3, k4⟩ := sound_sliceFar he hsz hu hl hhi h R
              refine .of ⟨r', w, ?_, .same (by rw [k3]; exact R) k2⟩
              rw [hmx]; exact k1
            · exact (run_fail h).elim
          · exact (run_fail h).elim
        · exact (run_fail h).elim
    · exact (run_fail h).elim
  case fieldAddr t x n =>
    simp only [aOp] at h
    split at h
    · rename_i u hu
      exact .pure h R fun v hv => sound_fieldAddr (F.eval hu) hv w
    · exact (run_fail h).elim
  case field t x n =>
    simp only [aOp] at h
    split at h
    · rename_i u hu
      exact .pure h R fun v hv => sound_field (F.eval hu) hv w
    · exact (run_fail h).elim
  case indexAddr t x ix =>
    simp only [aOp] at h
    split at h
    · rename_i u z hu hz
      exact .pure h R fun v hv => sound_indexAddr (F.eval hu) (F.eval hz) hv w
    · exact (run_fail h).elim
  case index t x ix =>
    simp only [aOp] at h
    split at h
    · rename_i u z hu hz
      exact .pure h R fun v hv => sound_index (F.eval hu) (F.eval hz) hv w
    · exact (run_fail h).elim
  case typeAssert x xt t ok =>
    simp only [aOp] at h
    split at h
    · rename_i u hu
      exact .pure h R fun v hv => sound_typeAssert (F.eval hu) hv w
    · exact (run_fail h).elim
  case extract x n =>
    simp only [aOp] at h
    split at h
    · rename_i u hu
      exact .pure h R fun v hv => sound_extract (F.eval hu) hv w
    · exact (run_fail h).elim
  case lookup t x ix ok =>
    simp only [aOp] at h
    split at h
    · rename_i u z hu hz
      exact .of (sound_lookup (F.eval hu) (F.eval hz) h R)
    · exact (run_fail h).elim
  case mapUpdate t x k y =>
    simp only [aOp] at h
    split at h
    · rename_i u z q hu hz hq
      obtain ⟨w', k1, k2, k3, k4⟩ := sound_update (F.eval hu) (F.eval hz) (F.eval hq) h R
      subst k4
      exact ⟨undef, w', .inr ⟨by simp [execOp, k1], rfl⟩, .same k2 (VR.undef m)⟩
    · exact (run_fail h).elim
  case insert t x k y =>
    simp only [aOp] at h
    split at h
    · rename_i u z q hu hz hq
      obtain ⟨w', k1, k2, k3, k4⟩ := sound_update (F.eval hu) (F.eval hz) (F.eval hq) h R
      subst k4
      exact ⟨undef, w', .inr ⟨by simp [execOp, k1], rfl⟩, .same k2 (VR.undef m)⟩
    · exact (run_fail h).elim
  case range t x =>
    simp only [aOp] at h
    split at h
    · rename_i u hu
      exact .of (sound_range (F.eval hu) R hfree h)
    · exact (run_fail h).elim
  case next x isS =>
    simp only [aOp] at h
    split at h
    · rename_i i hi
      cases isS
      · exact .of (sound_nextMap (F.eval hi) R h)
      · exact .of (sound_nextStr (F.eval hi) R h)
    · exact (run_fail h).elim
  case entry x =>
    simp only [aOp] at h
    split at h
    · rename_i i hi
      exact .of (sound_entry (F.eval hi) R h)
    · exact (run_fail h).elim
  case call c =>
    obtain ⟨callee, args, tys⟩ := c
    cases callee <;> simp only [aOp] at h <;> try exact (run_fail h).elim
    rename_i b
    split at h
    · rename_i vs hvs
      have hvs := F.evals hvs
      rw [← Array.toList_map] at hvs
      rw [BigFrame.execOp_builtin]
      exact builtin_of rfl h hvs R hfree
    · exact (run_fail h).elim
  all_goals exact (run_fail h).elim

end
end Go.Ax
