/- AX: the operations are those of the model: maps, iterators. -/
import Derived.Test.YtefogennhgacjaaGreatAxSound11
namespace Go.Ax
set_option linter.unusedSimpArgs false
set_option linter.unusedVariables false
open Go

section
variable {P : Program} {B : Nat} {w0 : World} {m : Map}

theorem pv_bind {α β : Type} {f : α → Sem β} {b : β} : ∀ {x : Sem α}, pv P (x.bind f) = some b → ∃ a, pv P x = some a ∧ pv P (f a) = some b
  | .pure a, h => ⟨a, rfl, h⟩
  | .program k, h => by
    obtain ⟨a, h1, h2⟩ := pv_bind (x := k P) (by simpa [Sem.bind, pv] using h)
    exact ⟨a, by simpa [pv] using h1, h2⟩
  | .mark _ k, h => by
    obtain ⟨a, h1, h2⟩ := pv_bind (x := k) (by simpa [Sem.bind, pv] using h)
    exact ⟨a, by simpa [pv] using h1, h2⟩
  | .load .., h => by simp [Sem.bind, pv] at h
  | .store .., h => by simp [Sem.bind, pv] at h
  | .new .., h => by simp [Sem.bind, pv] at h
  | .shape .., h => by simp [Sem.bind, pv] at h
  | .freeze .., h => by simp [Sem.bind, pv] at h
  | .frozen .., h => by simp [Sem.bind, pv] at h
  | .getObj .., h => by simp [Sem.bind, pv] at h
  | .setObj .., h => by simp [Sem.bind, pv] at h
  | .choose .., h => by simp [Sem.bind, pv] at h
  | .sys .., h => by simp [Sem.bind, pv] at h
  | .halt .., h => by simp [Sem.bind, pv] at h

/-- Two maps' entries: the same keys, values that are as they must be. -/
inductive ERs (m : Map) : List MapEntry → List MapEntry → Prop
  | nil : ERs m [] []
  | cons {e : MapEntry} {v' : Value} {l l' : List MapEntry} (hk : closed e.key = true) (h : VR m e.val v') (hl : ERs m l l') : ERs m (e :: l) ({ e with val := v' } :: l')

theorem ERs.of_get : ∀ {l l' : List MapEntry}, l'.length = l.length → (∀ (j : Nat) (e : MapEntry), l[j]? = some e → closed e.key = true ∧ ∃ v', l'[j]? = some { e with val := v' } ∧ VR m e.val v') → ERs m l l'
  | [], [], _, _ => .nil
  | [], _ :: _, h, _ => by simp at h
  | _ :: _, [], h, _ => by simp at h
  | e :: l, e' :: l', h, k => by
    obtain ⟨hk, v', he, hv⟩ := k 0 e rfl
    simp at he; subst he
    exact .cons hk hv (ERs.of_get (by simpa using h) fun j x hx => by simpa using k (j + 1) x (by simpa using hx))

theorem ERs.length : ∀ {l l' : List MapEntry}, ERs m l l' → l'.length = l.length
  | _, _, .nil => rfl
  | _, _, .cons _ _ hl => by simp [hl.length]

theorem ERs.get : ∀ {l l' : List MapEntry}, ERs m l l' → ∀ (j : Nat) (e : MapEntry), l[j]? = some e → closed e.key = true ∧ ∃ v', l'[j]? = some { e with val := v' } ∧ VR m e.val v'
  | _, _, .nil, j, e, h => by simp at h
  | _, _, .cons hk hv hl, 0, e, h => by simp at h; subst h; exact ⟨hk, _, rfl, hv⟩
  | _, _, .cons hk hv hl, j + 1, e, h => by simpa using hl.get j e (by simpa using h)

theorem ERs.snoc : ∀ {l l' : List MapEntry}, ERs m l l' → ∀ {e : MapEntry} {v' : Value}, closed e.key = true → VR m e.val v' → ERs m (l ++ [e]) (l' ++ [{ e with val := v' }])
  | _, _, .nil, e, v', hk, hv => .cons hk hv .nil
  | _, _, .cons hk hv hl, e, v', hk', hv' => .cons hk hv (hl.snoc hk' hv')

theorem findNow_rel {kind : TypeDesc} {k : Value} : ∀ {l l' : List MapEntry} (i : Nat), ERs m l l' →
    match Instr.findNow kind k l i with
    | none => Instr.findNow kind k l' i = none
    | some none => Instr.findNow kind k l' i = some none
    | some (some (n, v)) => ∃ v', Instr.findNow kind k l' i = some (some (n, v')) ∧ VR m v v' ∧ i ≤ n ∧ n - i < l.length
  | _, _, i, .nil => by simp [Instr.findNow]
  | _, _, i, @ERs.cons _ e v' l l' hk hv hl => by
    simp only [Instr.findNow]
    cases hs : Instr.sameNow kind k e.key with
    | none => simp
    | some b =>
      cases b with
      | true => exact ⟨v', rfl, hv, Nat.le_refl _, by simp⟩
      | false =>
        have := findNow_rel (kind := kind) (k := k) (i + 1) hl
        cases hf : Instr.findNow kind k l (i + 1) with
        | none => rw [hf] at this; simpa using this
        | some o =>
          cases o with
          | none => rw [hf] at this; simpa using this
          | some p =>
            obtain ⟨n, v⟩ := p
            rw [hf] at this
            obtain ⟨v2, h1, h2, h3, h4⟩ := this
            exact ⟨v2, h1, h2, by omega, by simp; omega⟩

theorem findAsking_rel {t : TypeId} {k : Value} : ∀ {l l' : List MapEntry} (i : Nat) {r : Option (Nat × Value)}, ERs m l l' → pv P (Instr.findAsking t k l i) = some r → ∀ w,
    match r with
    | none => (Instr.findAsking t k l' i).run P w = .ok none w
    | some (n, v) => ∃ v', (Instr.findAsking t k l' i).run P w = .ok (some (n, v')) w ∧ VR m v v' ∧ i ≤ n ∧ n - i < l.length
  | _, _, i, r, .nil, h, w => by
    simp [Instr.findAsking, pure, pv] at h; subst h
    simp [Instr.findAsking]
  | _, _, i, r, @ERs.cons _ e v' l l' hk hv hl, h, w => by
    unfold Instr.findAsking at h
    obtain ⟨b, hb, h⟩ := pv_bind h
    have hb := pv_run hb w
    cases b with
    | true =>
      simp [pure, pv] at h; subst h
      exact ⟨v', by simp [Instr.findAsking, hb], hv, Nat.le_refl _, by simp⟩
    | false =>
      simp only [Bool.false_eq_true, if_false] at h
      have := findAsking_rel (i + 1) hl h w
      cases r with
      | none => simp [Instr.findAsking, hb, this]
      | some p =>
        obtain ⟨n, v⟩ := p
        obtain ⟨v2, h1, h2, h3, h4⟩ := this
        exact ⟨v2, by simp [Instr.findAsking, hb, h1], h2, by omega, by simp; omega⟩

theorem findKey_rel {t : TypeId} {k : Value} {l l' : List MapEntry} {r : Option (Nat × Value)} (he : ERs m l l') (h : pv P (Instr.findKey t k l) = some r) (w : World) :
    match r with
    | none => (Instr.findKey t k l').run P w = .ok none w
    | some (n, v) => ∃ v', (Instr.findKey t k l').run P w = .ok (some (n, v')) w ∧ VR m v v' ∧ n < l.length := by
  unfold Instr.findKey at h
  obtain ⟨d, hd, h⟩ := pv_bind h
  have hd := pv_run hd w
  have hn := findNow_rel (kind := d) (k := k) 0 he
  cases hf : Instr.findNow d k l 0 with
  | none =>
    rw [hf] at hn h
    have := findAsking_rel 0 he h w
    cases r with
    | none => simp [Instr.findKey, hd, hn, this]
    | some p =>
      obtain ⟨n, v⟩ := p
      obtain ⟨v2, h1, h2, h3, h4⟩ := this
      exact ⟨v2, by simp [Instr.findKey, hd, hn, h1], h2, by omega⟩
  | some o =>
    rw [hf] at hn h
    simp [pure, pv] at h; subst h
    cases o with
    | none => simp [Instr.findKey, hd, hn]
    | some p =>
      obtain ⟨n, v⟩ := p
      obtain ⟨v2, h1, h2, h3, h4⟩ := hn
      exact ⟨v2, by simp [Instr.findKey, hd, h1], h2, by omega⟩

theorem isEmpty_of_length {α β : Type} {a : Array α} {l : List β} (h : a.toList.length = l.length) : a.isEmpty = l.isEmpty := by
  have h : a.size = l.length := by simpa using h
  cases l with
  | nil => simp at h; simp [h]
  | cons x l =>
    have : a ≠ #[] := by intro e; subst e; simp at h
    simp [this]

theorem sound_lookup {t : TypeId} {x x' k k' : Value} {ok : Bool} {v : Value} {s s1 : St} {w : World} (hx : VR m x x') (hk : VR m k k') (h : (aLookup P t x k ok).run s = some (v, s1)) (R : Rel B w0 m s.h w) :
    ∃ v' w', (Instr.lookup t x' k' ok).run P w = .ok v' w' ∧ Post B w0 m s.n v s1 v' w' := by
  unfold aLookup at h
  split at h
  · rename_i key elem hu hc
    have hu := pv_run hu w
    have := VR.eq_of_closed hc hk
    subst this
    split at h
    · cases hx
      split at h
      · rename_i z hck hfk hz
        have hck := pv_run hck w
        have hfk := pv_run hfk w
        obtain ⟨h1, h2⟩ := run_ret h
        subst h1 h2
        obtain ⟨z1, z2, z3⟩ := zeroOf_spec hz
        have hzz := VR.of_closed m z z2
        cases ok with
        | true => exact ⟨.tuple #[z, .bool false], w, by simp [Instr.lookup, hu, hck, hfk, z1], .same R (.tuple (.cons hzz (.cons (.bool _) .nil)))⟩
        | false => exact ⟨z, w, by simp [Instr.lookup, hu, hck, hfk, z1], .same R hzz⟩
      · exact (run_fail h).elim
    · rename_i r
      cases hx with
      | map hm =>
        rename_i b f t'
        obtain ⟨row, hrow, h⟩ := run_rd h
        cases row with
        | map es clock =>
          dsimp only at h
          obtain ⟨b', f', t2, es', q1, q2, q3, q4, q5, q6⟩ := map_len R hrow
          rw [hm] at q1; cases q1
          have hg := run_getObj_map (P := P) q4
          have hers : ERs m es es'.toList := ERs.of_get q5 q6
          have hemp : es'.isEmpty = es.isEmpty := by
            exact isEmpty_of_length q5
          split at h
          · rename_i n v' hck hfk
            have hck := pv_run hck w
            obtain ⟨h1, h2⟩ := run_ret h
            subst h1 h2
            obtain ⟨v2, g1, g2, g3⟩ := findKey_rel hers hfk w
            cases ok with
            | true => exact ⟨.tuple #[v2, .bool true], w, by simp [Instr.lookup, hu, hg, hemp, hck, g1], .same R (.tuple (.cons g2 (.cons (.bool _) .nil)))⟩
            | false => exact ⟨v2, w, by simp [Instr.lookup, hu, hg, hemp, hck, g1], .same R g2⟩
          · rename_i hck hfk
            have hck := pv_run hck w
            have g1 := findKey_rel hers hfk w
            split at h
            · rename_i z hz
              obtain ⟨z1, z2, z3⟩ := zeroOf_spec hz
              obtain ⟨h1, h2⟩ := run_ret h
              subst h1 h2
              have hzz := VR.of_closed m z z2
              cases ok with
              | true => exact ⟨.tuple #[z, .bool false], w, by simp [Instr.lookup, hu, hg, hemp, hck, g1, z1], .same R (.tuple (.cons hzz (.cons (.bool _) .nil)))⟩
              | false => exact ⟨z, w, by simp [Instr.lookup, hu, hg, hemp, hck, g1, z1], .same R hzz⟩
            · exact (run_fail h).elim
          · exact (run_fail h).elim
        | _ => exact (run_fail h).elim
    · exact (run_fail h).elim
  · exact (run_fail h).elim

end
end Go.Ax
