/- QuoteApart: for all acts: true, and the arguments as they were. -/
import Derived.Test.YtefogennhgacjaaGreatQtN
import Derived.Test.YtefogennhgacjaaGreatRows
import Derived.WalkKit
import Derived.ProofKit
import Derived.OpenShut
import Derived.ShutString
import Derived.ChangeOld
import Derived.Below
import Derived.Lib.SmallJoins
import Derived.Deep.Slices
namespace Go.Proofs.Qt
open Go Go.Ax Go.Proofs
set_option maxRecDepth 100000
set_option linter.unusedSimpArgs false
set_option linter.unusedVariables false

section
variable {H : Type} {enc : TypeId × Value → H} {w : World} {base : Nat} {spare : Nat → Bool} {held : Bool}

theorem open_quote {n : Nat} {cs : List Value} {x : DataW H × List MemPlace} (h : DataW.trod enc Tryz.prog w base spare held n 29 cs = some x) : ∃ q : Qo, cs = q.enc := by
  obtain ⟨xs, m, -, -, hl, hxl, hg⟩ := DataW.trod_struct Tryz.underlying29 h
  have hxl : xs.length = 8 := hxl
  have hl : cs.length = 8 := hl.trans (by kernel_rfl)
  have k3 : Tryz.prog.cellsOf 3 = 1 := by kernel_rfl
  have key : ∀ (i : Nat) (f : Field), f.type = 3 → (#[{ name := "ID", type := 3, offset := 0, embedded := false, tag := "", pkgPath := "", byteOffset := 0 }, { name := "Member", type := 3, offset := 1, embedded := false, tag := "", pkgPath := "", byteOffset := 8 }, { name := "Side", type := 3, offset := 2, embedded := false, tag := "", pkgPath := "", byteOffset := 16 }, { name := "Basket", type := 3, offset := 3, embedded := false, tag := "", pkgPath := "", byteOffset := 24 }, { name := "Amount", type := 3, offset := 4, embedded := false, tag := "", pkgPath := "", byteOffset := 32 }, { name := "Rate", type := 3, offset := 5, embedded := false, tag := "", pkgPath := "", byteOffset := 40 }, { name := "Start", type := 3, offset := 6, embedded := false, tag := "", pkgPath := "", byteOffset := 48 }, { name := "End", type := 3, offset := 7, embedded := false, tag := "", pkgPath := "", byteOffset := 56 }] : Array Field)[i]? = some f → i < xs.length → ∃ a, (cs.drop f.offset).take 1 = [.int .i64 a] := by
    intro i f ht hf hi
    have := hg i f hf
    rw [ht, k3, List.getElem?_eq_getElem hi] at this
    obtain ⟨a, ha, -, -⟩ := DataW.trod_int Tryz.underlying3 this
    exact ⟨a, ha⟩
  obtain ⟨a0, e0⟩ := key 0 _ rfl rfl (by omega)
  obtain ⟨a1, e1⟩ := key 1 _ rfl rfl (by omega)
  obtain ⟨a2, e2⟩ := key 2 _ rfl rfl (by omega)
  obtain ⟨a3, e3⟩ := key 3 _ rfl rfl (by omega)
  obtain ⟨a4, e4⟩ := key 4 _ rfl rfl (by omega)
  obtain ⟨a5, e5⟩ := key 5 _ rfl rfl (by omega)
  obtain ⟨a6, e6⟩ := key 6 _ rfl rfl (by omega)
  obtain ⟨a7, e7⟩ := key 7 _ rfl rfl (by omega)
  match cs, hl with
  | [c0, c1, c2, c3, c4, c5, c6, c7], _ =>
    simp at e0 e1 e2 e3 e4 e5 e6 e7
    subst e0 e1 e2 e3 e4 e5 e6 e7
    exact ⟨⟨a0, a1, a2, a3, a4, a5, a6, a7⟩, rfl⟩

theorem open_act {n : Nat} {cs : List Value} {x : DataW H × List MemPlace} (h : DataW.trod enc Tryz.prog w base spare held n 31 cs = some x) : ∃ q : Act, cs = q.enc := by
  obtain ⟨xs, m, -, -, hl, hxl, hg⟩ := DataW.trod_struct Tryz.underlying31 h
  have hl : cs.length = 11 := hl.trans (by kernel_rfl)
  have hxl : xs.length = 4 := hxl
  have k3 : Tryz.prog.cellsOf 3 = 1 := by kernel_rfl
  have k29 : Tryz.prog.cellsOf 29 = 8 := by kernel_rfl
  have g0 := hg 0 { name := "Kind", type := 3, offset := 0, embedded := false, tag := "", pkgPath := "", byteOffset := 0 } rfl
  have g1 := hg 1 { name := "Quote", type := 29, offset := 1, embedded := false, tag := "", pkgPath := "", byteOffset := 8 } rfl
  have g2 := hg 2 { name := "A", type := 3, offset := 9, embedded := false, tag := "", pkgPath := "", byteOffset := 72 } rfl
  have g3 := hg 3 { name := "B", type := 3, offset := 10, embedded := false, tag := "", pkgPath := "", byteOffset := 80 } rfl
  dsimp only at g0 g1 g2 g3
  rw [k3, List.getElem?_eq_getElem (by omega)] at g0 g2 g3
  rw [k29, List.getElem?_eq_getElem (by omega)] at g1
  obtain ⟨a0, e0, -, -⟩ := DataW.trod_int Tryz.underlying3 g0
  obtain ⟨a2, e2, -, -⟩ := DataW.trod_int Tryz.underlying3 g2
  obtain ⟨a3, e3, -, -⟩ := DataW.trod_int Tryz.underlying3 g3
  obtain ⟨q, e1⟩ := open_quote g1
  match cs, hl with
  | [c0, c1, c2, c3, c4, c5, c6, c7, c8, c9, c10], _ =>
    simp at e0 e1 e2 e3
    subst e0 e2 e3
    refine ⟨⟨a0, q, a2, a3⟩, ?_⟩
    show _ = _ :: (q.enc ++ _)
    rw [← e1]
    rfl
end

theorem choose_acts {n : Nat} {p : Nat → List Value → Prop} (h : ∀ i, i < n → ∃ x : Act, p i x.enc) : ∃ l : List Act, l.length = n ∧ ∀ (i : Nat) (hi : i < l.length), p i l[i].enc := by
  induction n with
  | zero => exact ⟨[], rfl, fun i hi => by cases hi⟩
  | succ n ih =>
    obtain ⟨l, hl, hp⟩ := ih fun i hi => h i (by omega)
    obtain ⟨x, hx⟩ := h n (by omega)
    refine ⟨l ++ [x], by simp [hl], fun i hi => ?_⟩
    by_cases e : i < l.length
    · rw [List.getElem_append_left e]; exact hp i e
    · have : i = n := by simp at hi; omega
      subst this
      rw [List.getElem_append_right (by omega)]
      simpa [hl] using hx

/-- The cells of acts, one by one. -/
theorem flatA_get : ∀ (l : List Act) (j : Nat) (v : Value), (flatA l)[j]? = some v → ∃ (i k : Nat) (hi : i < l.length), k < 11 ∧ j = i * 11 + k ∧ l[i].enc[k]? = some v
  | [], j, v, h => by simp [flatA] at h
  | x :: l, j, v, h => by
    unfold flatA at h
    by_cases hj : j < 11
    · rw [List.getElem?_append_left (by simpa using hj)] at h
      exact ⟨0, j, by simp, hj, by omega, h⟩
    · rw [List.getElem?_append_right (by simp; omega)] at h
      obtain ⟨i, k, hi, hk, e, hv⟩ := flatA_get l _ v h
      simp at e
      exact ⟨i + 1, k, by simpa using hi, hk, by omega, by simpa using hv⟩

/-- What came in as a slice of acts. -/
theorem open_acts {b0 : Nat} {H : Type} {enc : TypeId × Value → H} {W : World} {v : Value} {d : DataW H} {p : List MemPlace} (hval : Value.okWide Tryz.prog W .any b0 22 v) (h : DataW.Trod enc Tryz.prog W 0 (fun _ => true) true 22 v d p) :
    (v = .slice none 0 0) ∨ (∃ a, v = .slice (some a) 0 0) ∨ ∃ (acts : List Act) (b f cap : Nat) (c : Array Value) (e : TypeId) (z : Nat × Nat), v = .slice (some ⟨b, f, none⟩) acts.length cap ∧ W.heap[b]? = some (.cells c e z) ∧
      ∀ (j : Nat) (u : Value), (flatA acts)[j]? = some u → c[f + j]? = some u := by
  obtain ⟨fuel, hf⟩ := h
  obtain ⟨a', l', c', hv'⟩ := WideShapes.okWide_slice Tryz.underlying22 hval
  have hv : v.cells.toList = [v] ∨ ∃ x, v = .agg x := by subst hv'; exact .inl rfl
  have k31 : Tryz.prog.cellsOf 31 = 11 := by kernel_rfl
  rcases Deep.open_slice Tryz.underlying22 hf with ⟨hc, -⟩ | ⟨a, len, cap, m, n, D, Pl, hc, -, hlc, -, hm, -, hx⟩
  · rcases hv with hv | ⟨x, rfl⟩
    · rw [hv] at hc
      exact .inl (by simpa using hc)
    · cases hv'
  · rcases hv with hv | ⟨x, rfl⟩
    · rw [hv] at hc
      have hc : v = .slice (some a) len cap := by simpa using hc
      simp at hm
      subst hm
      rcases Nat.eq_zero_or_pos m with h0 | h0
      · subst h0
        have : len = 0 := by omega
        subst this
        exact .inr (.inl ⟨a, hc⟩)
      · right; right
        rw [k31] at hx
        obtain ⟨cs0, h1, h2⟩ := hx 0 h0
        obtain ⟨-, hl0, hg0⟩ := World.cells?_some h1
        have g := hg0 0 (by omega)
        rw [show (a.add (0 * 11)).add 0 = a from by simp [Addr.add], List.getElem?_eq_getElem (by omega)] at g
        obtain ⟨b, off, sp⟩ := a
        unfold World.cell? at g
        dsimp only at g
        split at g
        · rename_i c e z hW
          split at g
          · cases g
          · rename_i hsp
            have hsp : sp = none := by cases sp; rfl; simp at hsp
            subst hsp
            have key : ∀ i, i < len → ∃ x : Act, ∀ k, k < 11 → c[off + (i * 11 + k)]? = x.enc[k]? := by
              intro i hi
              obtain ⟨cs, h1, h2⟩ := hx i (by omega)
              obtain ⟨-, hl, hg⟩ := World.cells?_some h1
              obtain ⟨x, rfl⟩ := open_act h2
              refine ⟨x, fun k hk => ?_⟩
              have := hg k hk
              rw [add_addr, add_addr, cell?_at hW] at this
              rw [← this, Nat.add_assoc]
            obtain ⟨l, hl, hp⟩ := choose_acts (p := fun i cs => ∀ k, k < 11 → c[off + (i * 11 + k)]? = cs[k]?) key
            refine ⟨l, b, off, m, c, e, z, by rw [hl]; exact hc, hW, fun j u hj => ?_⟩
            obtain ⟨i, k, hi, hk, rfl, hu⟩ := flatA_get l j u hj
            rw [hp i hi k hk]; exact hu
        · cases g
    · cases hv'

/-- What came in, for the executor. -/
theorem arg_acts {b0 : Nat} {H : Type} {enc : TypeId × Value → H} {W : World} {v : Value} {d : DataW H} {p : List MemPlace} (hval : Value.okWide Tryz.prog W .any b0 22 v) (h : DataW.Trod enc Tryz.prog W 0 (fun _ => true) true 22 v d p) :
    ∃ (acts : List Act) (va : Nat → Value) (x : Option (Nat × Nat × Nat)) (r : Option Row), (∀ (m : Map) i, (∀ y, x = some y → m i = some y) → VR m (va i) v) ∧ (∀ (s : St) i, s.h.get i = r → i < s.n → Sa s (va i) acts i) ∧
      (∀ (m : Map) row, r = some row → ∃ b f t, x = some (b, f, t) ∧ b < W.heap.size ∧ isRo row = true ∧ RowR m W b f t row) := by
  rcases open_acts hval h with rfl | ⟨a, rfl⟩ | ⟨acts, b, f, cap, c, e, z, rfl, hW, hc⟩
  · exact ⟨[], fun _ => .slice none 0 0, none, none, fun _ _ _ => .nils, fun _ _ _ _ => .inl ⟨rfl, rfl⟩, fun _ _ hr => by cases hr⟩
  · exact ⟨[], fun i => .slice (some ⟨i, 0, none⟩) 0 0, none, none, fun _ _ _ => .slz, fun _ _ _ _ => .inr ⟨0, rfl, .inl rfl⟩, fun _ _ hr => by cases hr⟩
  · refine ⟨acts, fun i => .slice (some ⟨i, 0, none⟩) acts.length cap, some (b, f, c.size), some (.ro (flatA acts)), fun m i hm => .slx (o := 0) (hm _ rfl), fun s i hs hi => .inr ⟨cap, rfl, .inr ⟨hi, [], by simpa using hs⟩⟩, fun m row hr => ?_⟩
    cases hr
    refine ⟨b, f, c.size, rfl, ?_, rfl, c, e, z, hW, fun j u hj => ?_⟩
    · rcases Nat.lt_or_ge b W.heap.size with h | h
      · exact h
      · rw [Array.getElem?_eq_none h] at hW; cases hW
    · refine ⟨u, hc j u hj, ?_⟩
      obtain ⟨i, k, hi, hk, -, hu⟩ := flatA_get acts j u hj
      have : ∃ n, u = .int .i64 n := by
        unfold Act.enc Qo.enc at hu
        match k, hk with
        | 0, _ => exact ⟨_, by simpa using hu.symm⟩
        | 1, _ => exact ⟨_, by simpa using hu.symm⟩
        | 2, _ => exact ⟨_, by simpa using hu.symm⟩
        | 3, _ => exact ⟨_, by simpa using hu.symm⟩
        | 4, _ => exact ⟨_, by simpa using hu.symm⟩
        | 5, _ => exact ⟨_, by simpa using hu.symm⟩
        | 6, _ => exact ⟨_, by simpa using hu.symm⟩
        | 7, _ => exact ⟨_, by simpa using hu.symm⟩
        | 8, _ => exact ⟨_, by simpa using hu.symm⟩
        | 9, _ => exact ⟨_, by simpa using hu.symm⟩
        | 10, _ => exact ⟨_, by simpa using hu.symm⟩
      obtain ⟨n, rfl⟩ := this
      exact .int _ _

theorem walk {b0 : Nat} {H : Type} {enc : TypeId × Value → H} {W : World} {v0 v1 : Value} {d0 d1 : DataW H} {p0 p1 : List MemPlace} (k0 : Value.okWide Tryz.prog W .any b0 22 v0) (h0 : DataW.Trod enc Tryz.prog W 0 (fun _ => true) true 22 v0 d0 p0)
    (k1 : Value.okWide Tryz.prog W .any b0 22 v1) (h1 : DataW.Trod enc Tryz.prog W 0 (fun _ => true) true 22 v1 d1 p1) : Calls Tryz.prog 3 #[v0, v1] W fun e w' => e = .returned (.bool true) ∧ RowKit.Below W.heap.size W w' := by
  obtain ⟨a0, va0, x0, r0, A0, B0, C0⟩ := arg_acts k0 h0
  obtain ⟨a1, va1, x1, r1, A1, B1, C1⟩ := arg_acts k1 h1
  let m : Map := fun i => if i = 0 then x0 else if i = 1 then x1 else none
  let s : St := ⟨((T.nil : T Row).set 0 r0).set 1 r1, 3, [], []⟩
  have g0 : s.h.get 0 = r0 := by simp [s]
  have g1 : s.h.get 1 = r1 := by simp [s]
  have g2 : ∀ i, i ≠ 0 → i ≠ 1 → s.h.get i = none := by intro i h1 h2; simp [s, h1, h2]; rfl
  have row : ∀ i r, s.h.get i = some r → isRo r = true ∧ ∃ b f t, m i = some (b, f, t) ∧ Home W.heap.size b r ∧ RowR m W b f t r := by
    intro i r hr
    by_cases e0 : i = 0
    · subst e0
      rw [g0] at hr
      obtain ⟨b, f, t, hx, hb, ho, hR⟩ := C0 m r hr
      refine ⟨ho, b, f, t, by simp [m, hx], ?_, hR⟩
      cases r <;> first | exact hb | cases ho
    · by_cases e1 : i = 1
      · subst e1
        rw [g1] at hr
        obtain ⟨b, f, t, hx, hb, ho, hR⟩ := C1 m r hr
        refine ⟨ho, b, f, t, by simp [m, hx], ?_, hR⟩
        cases r <;> first | exact hb | cases ho
      · rw [g2 i e0 e1] at hr; cases hr
  have R : Rel W.heap.size W m s.h W := ⟨fun i r hr => (row i r hr).2, fun i j r r' b f t b' f' t' hro hr => (by rw [(row i r hr).1] at hro; cases hro), RowKit.Below.refl _ _, Nat.le_refl _⟩
  refine calls_from Tryz.tabOk Tryz.mixed R (fun i hi => ?_) (.cons (A0 m 0 fun y hy => by simp [m, hy]) (.cons (A1 m 1 fun y hy => by simp [m, hy]) .nil)) (call3 (s := s) (i1 := 0) (i2 := 1) (d := 2) (B0 s 0 g0 (by simp [s])) (B1 s 1 g1 (by simp [s])) (by simp [s]) (by simp [s]) (by simp [s]) (by decide) (by decide))
  have : 3 ≤ i := hi
  simp [m, show i ≠ 0 by omega, show i ≠ 1 by omega]

section
open Go.ChangeShapes Go.WideShapes Go.ChangeAt Go.RowKit Go.Proofs.YtefogennhgacjaaGreat

theorem own : ownKnob Tryz.prog.godebug = none := by kernel_rfl
theorem laidOut : laidOutB Tryz.prog = true := by kernel_rfl

theorem lifted (os : Os) (started : os.Started) (H : Type) (enc : TypeId × Value → H) :
    ReturnsInHanded {} Tryz.checked os 3 .any (Rows.quoteApartSpec.pre6 enc Tryz.prog Tryz.f3 Rows.quoteApartRow.domain false) (Rows.quoteApartSpec.post enc Tryz.prog Tryz.f3 false true false false) := by
  refine returnsInHanded_of_change (C := Tryz.checked) own started (by kernel_rfl) Tryz.func3
    (ChangeSpec.witness6 (enc := enc) (C := Tryz.checked) false ⟨#[], #[.slice none 0 0, .slice none 0 0], []⟩ 8 (by kernel_rfl) (by kernel_rfl) (by kernel_rfl) (by kernel_rfl)) ?_
  intro W base args ds gs before hval0 hW hcnd _
  have hval : ∀ (j : Nat) t v, Tryz.f3.params[j]? = some t → args[j]? = some v → Value.okWide Tryz.prog W .any base t v := hval0
  have hW' := hW
  obtain ⟨p, q, hA0, hV, rfl, hfz, hnd⟩ := hW
  have hA : DataW.TrodAll enc Tryz.prog W 0 (fun _ => true) true Tryz.f3.params.toList args.toList ds p := hA0
  rw [Tryz.params3] at hA hval
  obtain ⟨v0, vs0, d0, ds0, p0, q0, hargs, rfl, rfl, h0, r0⟩ := trodAll_cons hA
  obtain ⟨v1, vs1, d1, ds1, p1, q1, hargs1, rfl, rfl, h1, r1⟩ := trodAll_cons r0
  obtain ⟨rfl, rfl, rfl⟩ := trodAll_nil r1
  obtain rfl : args = #[v0, v1] := by cases args; simp_all
  obtain ⟨rfl, rfl⟩ := trodVars_none hV
  have k0 := h0
  have k1 := h1
  have lt0 : ∀ x ∈ p0, x.block < W.heap.size := by obtain ⟨m, hm⟩ := k0; exact DataW.trod_lt m _ _ _ hm
  have lt1 : ∀ x ∈ p1, x.block < W.heap.size := by obtain ⟨m, hm⟩ := k1; exact DataW.trod_lt m _ _ _ hm
  have w0 := hval 0 22 v0 rfl rfl
  have w1 := hval 1 22 v1 rfl rfl
  clear hA0 hval0
  refine (walk w0 h0 w1 h1).mono fun e W' ⟨he, bel⟩ => ?_
  subst he
  exact ⟨_, rfl, _, _, _, [], _, [], hW', trodAll_mk1 (shut_bool Tryz.underlying4 _), trodAll_cons_mk (Below.trod laidOut (by kernel_rfl) (of_decide_eq_true (by kernel_rfl)) k0 bel lt0) (trodAll_cons_mk (Below.trod laidOut (by kernel_rfl) (of_decide_eq_true (by kernel_rfl)) k1 bel lt1) trodAll_mk0), rfl, bel.frame _, fun h => by cases h⟩

theorem over : Rows.quoteApartRow.holds Tryz.pinned (OpenSpec.ofChange Rows.quoteApartSpec) :=
  OpenClaim.holds_of_wide 3 Tryz.f3 rfl rfl rfl rfl rfl rfl rfl ⟨rfl, rfl, rfl, rfl, rfl⟩ rfl rfl rfl rfl rfl (by kernel_rfl) Tryz.func3 (by kernel_rfl)
    (of_decide_eq_true (by kernel_rfl)) (by unfold Func.isWrapper; first | (rw [if_pos (by decide +kernel)]; kernel_rfl) | (rw [if_neg (by decide +kernel)]; exact ⟨rfl, rfl⟩))
    (fun os started H enc _ => lifted os started H enc)
end
end Go.Proofs.Qt
namespace Go.Proofs.YtefogennhgacjaaGreat
/-- The statement. -/
theorem quoteApartProved : Rows.QuoteApartSaid := Qt.over
#print axioms quoteApartProved
end Go.Proofs.YtefogennhgacjaaGreat
