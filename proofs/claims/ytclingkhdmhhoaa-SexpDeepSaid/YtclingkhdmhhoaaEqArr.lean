/- Plain laws: arrays of bytes held against one another. No condition. -/
import Derived.Test.YtclingkhdmhhoaaLaws3
namespace Go.Proofs.Ytclingkhdmhhoaa
open Go.RowKit
set_option linter.unusedSimpArgs false

def u8 (b : UInt8) : Value := .int .u8 b.toNat
def sv (s : List UInt8) : List Value := s.map u8
theorem length_sv (s : List UInt8) : (sv s).length = s.length := by simp [sv]
theorem one_u8 (b : UInt8) : (u8 b).oneCell' = true := rfl
theorem one_sv (s : List UInt8) : ∀ v ∈ sv s, v.oneCell' = true := by
  intro v hv
  obtain ⟨b, _, rfl⟩ := List.mem_map.1 hv
  rfl

section
variable {P : Program} {w : World}
theorem run_part {elem off : Nat} {cs : Array Value} {v : Value} (h : Sc P elem) (hv : cs[off]? = some v) : (part elem cs off).run P w = .ok v w := by
  obtain ⟨⟨d, hd, hk⟩, _⟩ := h
  have hi : (isAgg elem).run P w = .ok false w := by
    unfold isAgg
    rw [Sem.run_bind, run_underlying hd w]
    cases d <;> simp_all
  simp [part, Sem.run_bind, hi, hv]

theorem u8_beq (a b : UInt8) : ((a.toNat : Int) == (b.toNat : Int)) = (a == b) := by
  rw [Bool.eq_iff_iff]
  simp only [beq_iff_eq]
  constructor
  · intro h; exact UInt8.toNat_inj.1 (by omega)
  · rintro rfl; rfl

theorem run_eqLoop {d elem : Nat} {kk : IntKind} (hs : Sc P elem) (hu : P.underlying elem = some (.int kk)) (a b : List UInt8) : ∀ (n k : Nat), k + n = a.length → a.length = b.length →
    (forIn (List.range' k n) ((none, ()) : Option Bool × Unit) fun i __s => do
            let x ← part elem (sv a).toArray (i * 1)
            let y ← part elem (sv b).toArray (i * 1)
            let r ← Op.equalIn (d + 1) elem x y
            if (!r) = true then pure (ForInStep.done (some false, ())) else pure (ForInStep.yield (none, ()))).run P w =
      .ok (if a.drop k == b.drop k then (none, ()) else (some false, ())) w
  | 0, k, hk, hl => by
    rw [List.drop_of_length_le (by omega), List.drop_of_length_le (by omega)]
    simp
  | n + 1, k, hk, hl => by
    have ha : k < a.length := by omega
    have hb : k < b.length := by omega
    have h1 : (sv a).toArray[k * 1]? = some (u8 a[k]) := by simp [sv, ha]
    have h2 : (sv b).toArray[k * 1]? = some (u8 b[k]) := by simp [sv, hb]
    have h3 : (Op.equalIn (d + 1) elem (u8 a[k]) (u8 b[k])).run P w = .ok (a[k] == b[k]) w := by
      unfold u8
      rw [run_equalIn_int w d elem .u8 kk _ _ hu, u8_beq]
    rw [List.range'_succ, List.forIn_cons]
    simp only [Sem.run_bind, run_part hs h1, run_part hs h2, h3, Result.andThen_ok]
    rw [List.drop_eq_getElem_cons ha, List.drop_eq_getElem_cons hb]
    cases hab : (a[k] == b[k]) with
    | false =>
      simp only [Bool.not_false, if_true, Sem.run_pure, Result.andThen_ok, List.cons_beq_cons, hab, Bool.false_and, Bool.false_eq_true, if_false]
    | true =>
      have ih := run_eqLoop (d := d) hs hu a b n (k + 1) (by omega) hl
      simp only [Bool.not_true, Bool.false_eq_true, if_false, Sem.run_pure, Result.andThen_ok, List.cons_beq_cons, hab, Bool.true_and]
      exact ih

theorem run_eqArr {d t len elem : Nat} {kk : IntKind} (ht : P.underlying t = some (.array len elem)) (hs : Sc P elem) (hu : P.underlying elem = some (.int kk)) {a b : List UInt8} (ha : a.length = len) (hb : b.length = len) :
    (Op.equalIn (d + 2) t (.agg (sv a).toArray) (.agg (sv b).toArray)).run P w = .ok (a == b) w := by
  have h := run_eqLoop (w := w) (d := d) hs hu a b len 0 (by omega) (by omega)
  have e : (if a.drop 0 == b.drop 0 then ((none, ()) : Option Bool × Unit) else (some false, ())) = if a == b then (none, ()) else (some false, ()) := by simp
  rw [e] at h
  rw [Op.equalIn]
  simp only [Sem.run_bind, run_underlying ht, Result.andThen_ok, run_sizeOf hs.2]
  rw [Std.Legacy.Range.forIn_eq_forIn_range']
  have e2 : ([:len] : Std.Legacy.Range).size = len := by simp [Std.Legacy.Range.size]
  rw [e2]
  rw [h]
  cases a == b <;> simp

theorem run_eql_arr {t len elem : Nat} {kk : IntKind} (ht : P.underlying t = some (.array len elem)) (hs : Sc P elem) (hu : P.underlying elem = some (.int kk)) {a b : List UInt8} (ha : a.length = len) (hb : b.length = len) :
    (binOp .eql t (.agg (sv a).toArray) (.agg (sv b).toArray)).run P w = .ok (.bool (a == b)) w := by
  rw [run_eql_struct, run_eqArr (d := 9998) ht hs hu ha hb]; rfl
theorem run_neq_arr {t len elem : Nat} {kk : IntKind} (ht : P.underlying t = some (.array len elem)) (hs : Sc P elem) (hu : P.underlying elem = some (.int kk)) {a b : List UInt8} (ha : a.length = len) (hb : b.length = len) :
    (binOp .neq t (.agg (sv a).toArray) (.agg (sv b).toArray)).run P w = .ok (.bool (!(a == b))) w := by
  rw [run_neq_struct, run_eqArr (d := 9998) ht hs hu ha hb]; rfl
end
theorem ex_bin {P : Program} {ρ : Operand → Value} {w : World} {dst : Option Tmp} {t : TypeId} {pos : String} {aft : Array Edge} {g : Option (Nat × Bool)} {op : BinOp} {xt yt : TypeId} {x y : Operand} {vx vy v : Value} (hx : ρ x = vx) (hy : ρ y = vy)
    (hg : (eqGuard op xt x y vx vy).run P w = .ok () w) (h : (binOp op xt vx vy).run P w = .ok v w) : (execOp ρ ⟨dst, .binOp op xt x y yt, t, pos, aft, g⟩).run P w = .ok (.value v) w := by
  simp [execOp, hx, hy, hg, h]
theorem ex_not {P : Program} {ρ : Operand → Value} {dst : Option Tmp} {t : TypeId} {pos : String} {aft : Array Edge} {g : Option (Nat × Bool)} {xt : TypeId} {x : Operand} {b : Bool} (hx : ρ x = .bool b) (w : World) :
    (execOp ρ ⟨dst, .unOp .not xt x, t, pos, aft, g⟩).run P w = .ok (.value (.bool (!b))) w := by
  simp [execOp, hx, Op.unary]
theorem eqguard38 (x y : Operand) (op : BinOp) (a b : List Value) (w : World) : (eqGuard op 38 x y (.agg a.toArray) (.agg b.toArray)).run Try.prog w = .ok () w := by go_simp
end Go.Proofs.Ytclingkhdmhhoaa
