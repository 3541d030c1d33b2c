/- Slices of rows of tokens. No condition. -/
import Derived.Test.YtclingkhdmhhoaaLxX
namespace Go.Proofs.Ytclingkhdmhhoaa
open Go.RowKit
set_option linter.unusedSimpArgs false
set_option linter.unusedVariables false

def slFrom : Value → Nat → Value
  | .slice A n c, k => .slice (if c = k then A else A.map (·.add (k * 3))) (n - k) (c - k)
  | v, _ => v
def slTo : Value → Nat → Value
  | .slice A n c, k => .slice (if c = 0 then A else A.map (·.add 0)) k c
  | v, _ => v
theorem addr0 (A : Option Addr) : A.map (·.add 0) = A := by
  cases A with
  | none => rfl
  | some a =>
    obtain ⟨b, o, s⟩ := a
    simp only [Option.map_some, Option.some.injEq]
    unfold Addr.add; split <;> simp_all
theorem Tks.to {w : World} {v : Value} {ts : List Tok} (h : Tks w v ts) {k : Nat} (hk : k ≤ ts.length) (hm : ts.length ≤ 1073741824) : (Instr.sliceAt 44 v none (some (.int .i64 k)) none).run Try.prog w = .ok (slTo v k) w ∧ Tks w (slTo v k) (ts.take k) := by
  obtain ⟨A, c, rfl, hc, h3⟩ := h
  have b1 : k ≤ c := by omega
  have e1 : (ts.take k).length = k := by simp; omega
  refine ⟨?_, ⟨A, c, ?_, by omega, ?_⟩⟩
  · simp [Instr.sliceAt, Instr.slice, Instr.sliceBounds, Instr.sliceBound, asIntOf, run_underlying Try.underlying44, run_sizeOf st44.siz, b1, slTo]
  · rw [e1]
    unfold slTo
    simp only
    rw [addr0]
    split <;> rfl
  · rcases h3 with h | ⟨b, o, rfl, hcc⟩
    · subst h; exact .inl (by simp)
    · exact .inr ⟨b, o, rfl, fun i t hi => hcc i t (by
        rw [List.getElem?_take] at hi
        split at hi
        · exact hi
        · cases hi)⟩
theorem Tks.from {w : World} {v : Value} {ts : List Tok} (h : Tks w v ts) {k : Nat} (hk : k ≤ ts.length) (hm : ts.length ≤ 1073741824) : (Instr.sliceAt 44 v (some (.int .i64 k)) none none).run Try.prog w = .ok (slFrom v k) w ∧ Tks w (slFrom v k) (ts.drop k) := by
  obtain ⟨A, c, rfl, hc, h3⟩ := h
  have e1 : (ts.drop k).length = ts.length - k := by simp
  refine ⟨?_, ⟨if c = k then A else A.map (·.add (k * 3)), c - k, ?_, by omega, ?_⟩⟩
  · simp [Instr.sliceAt, Instr.slice, Instr.sliceBounds, Instr.sliceBound, asIntOf, run_underlying Try.underlying44, run_sizeOf st44.siz, hk, slFrom]
  · rw [e1]; rfl
  · by_cases hck : c = k
    · exact .inl (List.drop_eq_nil_of_le (by omega))
    · rcases h3 with h | ⟨b, o, rfl, hcc⟩
      · subst h; exact .inl (by simp)
      · refine .inr ⟨b, o + k * 3, by rw [if_neg hck]; simp [add_none], fun i t hi j u hj => ?_⟩
        have := hcc (k + i) t (by rw [List.getElem?_drop] at hi; exact hi) j u hj
        rw [show o + k * 3 + i * 3 + j = o + (k + i) * 3 + j by omega]; exact this
theorem ex_sl_to {P : Program} {ρ : Operand → Value} {w : World} {dst : Option Tmp} {t : TypeId} {pos : String} {aft : Array Edge} {g : Option (Nat × Bool)} {x hi : Operand} {v vh v' : Value} {ty : TypeId} (hx : ρ x = v) (hh : ρ hi = vh) (h : (Instr.sliceAt ty v none (some vh) none).run P w = .ok v' w) :
    (execOp ρ ⟨dst, .slice ty x none (some hi) none, t, pos, aft, g⟩).run P w = .ok (.value v') w := by simp [execOp, hx, hh, h]
theorem ex_sl_from {P : Program} {ρ : Operand → Value} {w : World} {dst : Option Tmp} {t : TypeId} {pos : String} {aft : Array Edge} {g : Option (Nat × Bool)} {x lo : Operand} {v vl v' : Value} {ty : TypeId} (hx : ρ x = v) (hl : ρ lo = vl) (h : (Instr.sliceAt ty v (some vl) none none).run P w = .ok v' w) :
    (execOp ρ ⟨dst, .slice ty x (some lo) none none, t, pos, aft, g⟩).run P w = .ok (.value v') w := by simp [execOp, hx, hl, h]

theorem readN_at : ∀ (n : Nat) (s : List UInt8) (a : Nat) (ts : List Tok), readN n s a = .ok ts → ∀ t ∈ ts, 0 ≤ t.at_ ∧ t.at_ ≤ ((a + s.length : Nat) : Int)
  | 0, s, a, ts, h, t, ht => by cases h; cases ht
  | n + 1, s, a, ts, h, t, ht => by
    unfold readN at h
    split at h
    · cases h; cases ht
    · rename_i hl
      cases hx : tokL (s.drop (skipN false s)) with
      | error e => rw [hx] at h; cases h
      | ok x =>
        obtain ⟨kd, tx, m⟩ := x
        have hm := tokL_bd.1 kd tx m hx
        rw [List.length_drop] at hm
        rw [hx] at h
        dsimp only at h
        cases hr : readN n (s.drop (skipN false s + m)) (a + skipN false s + m) with
        | error e => rw [hr] at h; cases h
        | ok us =>
          rw [hr] at h
          cases h
          rcases List.mem_cons.1 ht with rfl | ht
          · simp only; omega
          · have := readN_at n _ _ us hr t ht
            rw [List.length_drop] at this
            omega
theorem readC_at {s : List UInt8} {a : Nat} {ts : List Tok} (h : readC s a = .ok ts) : ∀ t ∈ ts, 0 ≤ t.at_ ∧ t.at_ ≤ ((a + s.length : Nat) : Int) := readN_at _ _ _ _ h
theorem readN_len : ∀ (n : Nat) (s : List UInt8) (a : Nat) (ts : List Tok), readN n s a = .ok ts → ts.length ≤ s.length
  | 0, s, a, ts, h => by cases h; simp
  | n + 1, s, a, ts, h => by
    unfold readN at h
    split at h
    · cases h; simp
    · rename_i hl
      cases hx : tokL (s.drop (skipN false s)) with
      | error e => rw [hx] at h; cases h
      | ok x =>
        obtain ⟨kd, tx, m⟩ := x
        have hm := tokL_bd.1 kd tx m hx
        rw [List.length_drop] at hm
        rw [hx] at h
        dsimp only at h
        cases hr : readN n (s.drop (skipN false s + m)) (a + skipN false s + m) with
        | error e => rw [hr] at h; cases h
        | ok us =>
          rw [hr] at h
          cases h
          have := readN_len n _ _ us hr
          rw [List.length_drop] at this
          simp; omega
theorem readC_len {s : List UInt8} {a : Nat} {ts : List Tok} (h : readC s a = .ok ts) : ts.length ≤ s.length := readN_len _ _ _ _ h
end Go.Proofs.Ytclingkhdmhhoaa
