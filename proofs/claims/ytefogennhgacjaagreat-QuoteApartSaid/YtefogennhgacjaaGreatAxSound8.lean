/- AX: the operations are those of the model: slices made, type assertions, the builtin functions, maps. -/
import Derived.Test.YtefogennhgacjaaGreatAxSound7
namespace Go.Ax
set_option linter.unusedSimpArgs false
set_option linter.unusedVariables false
open Go

section
variable {P : Program} {B : Nat} {w0 : World} {m : Map}

theorem wrap_small {z : Int} (h0 : 0 ≤ z) (h1 : z ≤ 16777216) : IntKind.i64.wrap z = z := by
  simp [IntKind.wrap, IntKind.bits, IntKind.signed]
  omega

theorem sound_makeSlice {t : TypeId} {l l' c c' : Value} (hl : VR m l l') (hc : VR m c c') : Sound P B w0 m (aMakeSlice P t l c) (Instr.makeSlice t l' c') := by
  intro s v s1 w h R hfree
  unfold aMakeSlice at h
  split at h
  · rename_i e l c he
    cases hl; cases hc
    have hu := elemOfSlice_spec he w
    split at h
    · rename_i n z hn hz
      have hn := pv_run hn w
      obtain ⟨z1, z2, z3⟩ := zeroOf_spec hz
      split at h
      · rename_i ti hb hti
        have hti := pv_run hti w
        simp only [Bool.and_eq_true, decide_eq_true_eq] at hb
        obtain ⟨⟨⟨b1, b2⟩, b3⟩, b4⟩ := hb
        have b4 := Nat.eq_of_beq_eq_true b4
        split at h
        · rename_i hle
          have hle := Nat.le_of_ble_eq_true hle
          refine ⟨_, _, ?_, post_new (e := e) R (VRs.of_closed m _ (closed_rep (closedL_cells z2) c.toNat)) hfree h⟩
          have hl := wrap_small b1 (by omega)
          have hcw := wrap_small (Int.le_trans b1 b2) (by omega)
          have hbig : ¬ (2 ^ 48 < (ti.bytes : Int) * c) := by
            have : ((ti.bytes * c.toNat : Nat) : Int) = (ti.bytes : Int) * c := by
              rw [Int.natCast_mul, Int.toNat_of_nonneg (Int.le_trans b1 b2)]
            omega
          have hrep := rep_zero z.cells c.toNat
          have hsz : z.cells.size = n := by rw [← b4, ← cellsOf_toList]; simp
          rw [cellsOf_toList, hsz] at hrep
          have hbig2 : ¬ ((ti.bytes : Int) * c > 2 ^ 48) := hbig
          have n1 : ¬ c < 0 := by omega
          have n2 : ¬ l < 0 := by omega
          have n3 : ¬ l > c := by omega
          have hcond : ¬ ((((decide (c < 0) || decide ((ti.bytes : Int) * c > 2 ^ 48)) || decide (l < 0)) || decide (l > c)) = true) := by
            rw [decide_eq_false n1, decide_eq_false hbig2, decide_eq_false n2, decide_eq_false n3]; decide
          simp only [Instr.makeSlice, Sem.run_bind, hu, asInt, asIntOf, Sem.run_pure, Result.andThen_ok, hti, hl, hcw, Sem.run_ite, hn]
          rw [if_neg hcond]
          simp only [run_askRoom, Result.andThen_ok, Sem.run_bind, hn, Sem.run_ite, Sem.run_pure]
          by_cases h0 : c.toNat * n = 0
          · have e1 : rep (cellsOf z) c.toNat = [] := by
              apply List.length_eq_zero_iff.1
              rw [rep_length, b4, h0]
            rw [if_pos h0, h0, e1]
            simp [newRow]
            congr 2
            apply Array.ext'
            simp
          · rw [if_neg h0]
            simp only [z1, Sem.run_bind, Sem.run_pure, Result.andThen_ok]
            rw [show (Array.range (c.toNat * n)).map (fun x => z.cells[x % z.cells.size]!) = ⟨rep (cellsOf z) c.toNat⟩ from by rw [hsz]; exact hrep]
            simp [newRow]
        · exact (run_fail h).elim
      · exact (run_fail h).elim
    · exact (run_fail h).elim
  · exact (run_fail h).elim

theorem sound_typeAssert {x x' v : Value} {xt t : TypeId} {ok : Bool} (hx : VR m x x') (h : aTypeAssert P x t ok = some v) (w : World) :
    ∃ v', (Instr.typeAssert x' xt t ok).run P w = .ok v' w ∧ VR m v v' := by
  have fails : ∀ {z : Value}, zeroOf P t = some z → VR m (.tuple ⟨[z, .bool false]⟩) (.tuple #[z, .bool false]) := by
    intro z hz
    exact .tuple (.cons (VR.of_closed m z (zeroOf_spec hz).2.1) (.cons (.bool _) .nil))
  unfold aTypeAssert at h
  split at h
  · cases h
  · rename_i d u y hni hd
    have hd := pv_run hd w
    cases hx with
    | iface _ hv =>
      rename_i y'
      split at h
      · rename_i hb
        have hb := Nat.eq_of_beq_eq_true hb
        cases h
        cases ok with
        | true =>
          refine ⟨.tuple #[y', .bool true], ?_, .tuple (.cons hv (.cons (.bool _) .nil))⟩
          cases d <;> first | exact absurd rfl (hni _) | simp [Instr.typeAssert, hd, hb]
        | false =>
          refine ⟨y', ?_, hv⟩
          cases d <;> first | exact absurd rfl (hni _) | simp [Instr.typeAssert, hd, hb]
      · rename_i hb
        have hb := Nat.ne_of_beq_eq_false hb
        split at h
        · rename_i z hz
          cases h
          refine ⟨_, ?_, fails hz⟩
          have hz1 := (zeroOf_spec hz).1
          cases d <;> first | exact absurd rfl (hni _) | simp [Instr.typeAssert, hd, hb, hz1]
        · cases h
  · rename_i d hni hd
    have hd := pv_run hd w
    cases hx
    split at h
    · rename_i z hz
      cases h
      refine ⟨_, ?_, fails hz⟩
      have hz1 := (zeroOf_spec hz).1
      cases d <;> first | exact absurd rfl (hni _) | simp [Instr.typeAssert, hd, hz1]
    · cases h
  · cases h

theorem sound_makeInterface {t : TypeId} {x' : Value} {d : TypeDesc} (hd : pv P (underlying t) = some d) (hni : ∀ y, d ≠ .interface y) (w : World) :
    (Instr.makeInterface t x').run P w = .ok (.iface t x') w := by
  have hd := pv_run hd w
  cases d <;> first | exact absurd rfl (hni _) | simp [Instr.makeInterface, hd]

end
end Go.Ax
