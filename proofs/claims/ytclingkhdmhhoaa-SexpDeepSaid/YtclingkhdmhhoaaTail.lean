/- Plain law: a region that draws its order, in which all read but the last, which waits for all. No condition. -/
import Derived.Test.YtclingkhdmhhoaaDisk
namespace Go.Proofs.Ytclingkhdmhhoaa
open Go.RowKit
set_option linter.unusedSimpArgs false

def LinT (P : Program) (ops : Array Oper) (W : World) (last : Nat) (Q : World → Prop) (R : Act → World → Prop) : Nat → List Oper → Act → Prop
  | _, [], a => ∀ w, Q w → R a w
  | i, o :: rest, a => ∃ v, RunsTo P ops o a W v (fun w' => if i = last then Q w' else w' = W) ∧ LinT P ops W last Q R (i + 1) rest (a.put o.dst v)
theorem RunsTo.mono {P : Program} {ops : Array Oper} {o : Oper} {a : Act} {w : World} {v : Value} {R R' : World → Prop} (h : RunsTo P ops o a w v R) (hR : ∀ w, R w → R' w) : RunsTo P ops o a w v R' := by
  unfold RunsTo at *
  split
  · rename_i hw
    rw [if_pos hw] at h
    revert h
    generalize (execOp a.eval o).run P w = r
    intro h
    cases r with
    | ok n w' =>
      cases n <;> simp only [] at h ⊢
      case value u => exact ⟨h.1, hR _ h.2⟩
      case skip => exact ⟨h.1, hR _ h.2⟩
      case enter f args => exact h.mono fun e w'' ⟨he, h2⟩ => ⟨he, hR _ h2⟩
    | halt x w' => exact h
  · rename_i hw
    rw [if_neg hw] at h
    exact ⟨h.1, hR _ h.2⟩

theorem wp_region_tail {P : Program} {ops : Array Oper} {id : Nat} {a : Act} {w : World} {Q : Exit → Act → World → Prop} (last : Nat) (Qw : World → Prop) (hm : P.follows .mixedOrders = true) (hc : linCheck ops = true)
    (ha : ((List.range last).all (fun i => anc ops i last) && decide (ops.size = last + 1)) = true) (h : LinT P ops w.drew last Qw (fun a w => Q .normal a w) 0 ops.toList a) : (Code.region id ops true).wp P Q a w := by
  simp only [Bool.and_eq_true, List.all_eq_true, decide_eq_true_eq, List.mem_range] at ha
  obtain ⟨hanc, hsz⟩ := ha
  refine wp_region_lin (fun D w' => if D last = true then Qw w' else w' = w.drew) hm hc (by simp) ?_
  have key : ∀ (l : List Oper) (i : Nat) (a : Act), (∀ k o, l[k]? = some o → ops[i + k]? = some o) → i + l.length = ops.size →
      LinT P ops w.drew last Qw (fun a w => Q .normal a w) i l a → Lin P ops (fun D w' => if D last = true then Qw w' else w' = w.drew) (fun a w => Q .normal a w) i l a := by
    intro l
    induction l with
    | nil =>
      intro i a _ hi h w' hw'
      simp only [List.length_nil, Nat.add_zero] at hi
      rw [if_pos (by simp; omega)] at hw'
      exact h w' hw'
    | cons o rest ih =>
      intro i a hl hi h
      obtain ⟨v, hv, hrest⟩ := h
      refine ⟨v, ?_, ih (i + 1) _ (fun k o' hk => by
        have := hl (k + 1) o' (by simpa using hk)
        rw [show i + 1 + k = i + (k + 1) by omega]; exact this) (by simp at hi ⊢; omega) hrest⟩
      intro D w' hw' hDi hdeps hdown
      have hlt : i ≤ last := by simp at hi; omega
      have hDl : D last = false := by
        cases hd : D last with
        | false => rfl
        | true =>
          rcases Nat.eq_or_lt_of_le hlt with e | e
          · rw [← e, hDi] at hd; cases hd
          · have := anc_sound (hanc i e) hdown hd
            rw [hDi] at this; cases this
      simp only [hDl, Bool.false_eq_true, if_false] at hw'
      subst hw'
      refine hv.mono fun w'' h2 => ?_
      by_cases he : i = last
      · rw [if_pos he] at h2
        simp only [he, beq_self_eq_true, Bool.or_true, if_true]; exact h2
      · rw [if_neg he] at h2
        have : (D last || last == i) = false := by rw [hDl]; simp; omega
        simp only [this, Bool.false_eq_true, if_false]; exact h2
  exact key ops.toList 0 a (by simp) (by simp) h

section
variable {P : Program} {ops : Array Oper} {W : World} {last : Nat} {Q : World → Prop} {R : Act → World → Prop} {i : Nat} {o : Oper} {rest : List Oper} {a a' : Act} {v : Value}
theorem LinT.done (h : ∀ w, Q w → R a w) : LinT P ops W last Q R i [] a := h
theorem LinT.rd (hw : Region.wanted o (yielded ops a.tmps) = true) (hi : i ≠ last) (h : (execOp a.eval o).run P W = .ok (.value v) W) (ha : a.put o.dst v = a') (hr : LinT P ops W last Q R (i + 1) rest a') : LinT P ops W last Q R i (o :: rest) a :=
  ⟨v, RunsTo.val hw h (by rw [if_neg hi]), ha ▸ hr⟩
theorem LinT.off (hw : Region.wanted o (yielded ops a.tmps) = false) (hi : i ≠ last) (ha : a.put o.dst undef = a') (hr : LinT P ops W last Q R (i + 1) rest a') : LinT P ops W last Q R i (o :: rest) a :=
  ⟨undef, by unfold RunsTo; rw [if_neg (by simp [hw])]; exact ⟨rfl, by show (if i = last then Q W else W = W); rw [if_neg hi]⟩, ha ▸ hr⟩
theorem LinT.call {f : Nat} {args : Array Value} (hw : Region.wanted o (yielded ops a.tmps) = true) (hi : i = last) (h : (execOp a.eval o).run P W = .ok (.enter f args) W) (hc : Calls P f args W (fun e w' => e = .returned v ∧ Q w')) (ha : a.put o.dst v = a')
    (hr : LinT P ops W last Q R (i + 1) rest a') : LinT P ops W last Q R i (o :: rest) a :=
  ⟨v, by
    unfold RunsTo
    rw [if_pos hw, h]
    exact hc.mono fun e w' ⟨he, hq⟩ => ⟨he, by show (if i = last then Q w' else w' = W); rw [if_pos hi]; exact hq⟩, ha ▸ hr⟩
theorem LinT.quiet {f : Nat} {args : Array Value} (hw : Region.wanted o (yielded ops a.tmps) = true) (hi : i ≠ last) (h : (execOp a.eval o).run P W = .ok (.enter f args) W) (hc : Calls P f args W (fun e w' => e = .returned v ∧ W = w')) (ha : a.put o.dst v = a')
    (hr : LinT P ops W last Q R (i + 1) rest a') : LinT P ops W last Q R i (o :: rest) a :=
  ⟨v, by
    unfold RunsTo
    rw [if_pos hw, h]
    exact hc.mono fun e w' ⟨he, hq⟩ => ⟨he, by show (if i = last then Q w' else w' = W); rw [if_neg hi]; exact hq.symm⟩, ha ▸ hr⟩
end
/-- a call of a function by its number -/
theorem ex_call {P : Program} {ρ : Operand → Value} {w : World} {dst : Option Tmp} {t : TypeId} {pos : String} {aft : Array Edge} {g : Option (Nat × Bool)} {f : Nat} {x : Operand} {args : Array Operand} {ts : Array TypeId} {vs : List Value} (hx : ρ x = .func (.func f) #[] #[]) (hv : args.toList.map ρ = vs)
    (hcf : (callFunc f vs.toArray).run P w = .ok (.enter f vs.toArray) w) : (execOp ρ ⟨dst, .call { callee := .value x, args := args, argTypes := ts }, t, pos, aft, g⟩).run P w = .ok (.enter f vs.toArray) w := by
  have e : args.map ρ = vs.toArray := by rw [← hv]; apply Array.ext'; simp
  simp [execOp, resolve, Deferred.ofValue, invoke, hx, e, hcf]
end Go.Proofs.Ytclingkhdmhhoaa
