/- Plain laws: a region that draws its order, driven by hand: what yields in every world first, then what may come next. No condition. -/
import Derived.Test.YtclingkhdmhhoaaTail
namespace Go.Proofs.Ytclingkhdmhhoaa
open Go.RowKit
set_option linter.unusedSimpArgs false

section
variable {P : Program} {ops : Array Oper} {Q : Exit → Act → World → Prop} {fuel : Nat} {listed : Array Bool} {a a' : Act} {w : World} {oi : Oper} {v : Value}
theorem any_start {id : Nat} (hm : P.follows .mixedOrders = true) (h : wpAny P .any ops Q ops.size (Array.replicate ops.size false) a w.drew) : (Code.region id ops true).wp P Q a w := wp_region_any hm h
theorem any_take (i : Nat) (hi : ops[i]? = some oi) (hs : Region.noSelect ops = true) (hf : Region.free .any ops listed i = true) (hr : (Region.ready .any ops listed).contains i = true)
    (hQ : ∀ c a w, Q (.panic c) (a.put oi.dst v) w → Q (.panic c) a w) (hw : Region.wanted oi (yielded ops a.tmps) = true) (hy : ∀ w, (execOp a.eval oi).run P w = .ok (.value v) w) (ha : a.put oi.dst v = a')
    (h : wpAny P .any ops Q fuel (listed.setIfInBounds i true) a' w) : wpAny P .any ops Q (fuel + 1) listed a w :=
  wpAny_take hi hs hf hr hQ (.inl ⟨hw, hy⟩) (by rw [ha]; exact h)
theorem wpOp_of {i : Nat} {K : Act → World → Prop} (hi : ops[i]? = some oi) (hw : Region.wanted oi (yielded ops a.tmps) = true) (h : oi.wp P a w K Q) : wpOp P ops Q i K a w := by
  unfold Go.wpOp
  simp only [hi]
  rw [if_pos hw]
  exact .inl h
theorem any_one (i : Nat) (hr : Region.ready .any ops listed = [i]) (hi : ops[i]? = some oi) (hw : Region.wanted oi (yielded ops a.tmps) = true)
    (h : oi.wp P a w (wpAny P .any ops Q fuel (listed.setIfInBounds i true)) Q) : wpAny P .any ops Q (fuel + 1) listed a w :=
  wpAny_all hr (by simp) fun j hj => by
    obtain rfl := List.mem_singleton.1 hj
    exact wpOp_of hi hw h
theorem any_two (i j : Nat) {oj : Oper} (hr : Region.ready .any ops listed = [i, j]) (hi : ops[i]? = some oi) (hj : ops[j]? = some oj) (hwi : Region.wanted oi (yielded ops a.tmps) = true) (hwj : Region.wanted oj (yielded ops a.tmps) = true)
    (h1 : oi.wp P a w (wpAny P .any ops Q fuel (listed.setIfInBounds i true)) Q) (h2 : oj.wp P a w (wpAny P .any ops Q fuel (listed.setIfInBounds j true)) Q) : wpAny P .any ops Q (fuel + 1) listed a w :=
  wpAny_all hr (by simp) fun k hk => by
    simp only [List.mem_cons, List.not_mem_nil, or_false] at hk
    rcases hk with rfl | rfl
    · exact wpOp_of hi hwi h1
    · exact wpOp_of hj hwj h2
theorem any_put {dst : Option Tmp} {u : Value} (ha : a.put dst u = a') (h : wpAny P .any ops Q fuel listed a' w) : wpAny P .any ops Q fuel listed (a.put dst u) w := by rw [ha]; exact h
theorem any_done (hr : Region.ready .any ops listed = []) (h : Q .normal a w) : wpAny P .any ops Q fuel listed a w := wpAny_done hr h fuel
end
theorem wp_enter {P : Program} {o : Oper} {a : Act} {w w1 : World} {K : Act → World → Prop} {Q : Exit → Act → World → Prop} {f : Nat} {args : Array Value} (h : (execOp a.eval o).run P w = .ok (.enter f args) w1)
    (hc : Calls P f args w1 (fun e w' => ∃ v, e = .returned v ∧ K (a.put o.dst v) w')) : o.wp P a w K Q := by
  unfold Oper.wp
  rw [h]
  simp only [Oper.upon]
  exact hc.mono fun e w' ⟨v, he, hk⟩ => by subst he; exact hk

/-! a region that draws its order: what is ahead of its last operation keeps Pw, which tells all that is read -/
def LinU (P : Program) (ops : Array Oper) (Pw : World → Prop) (last : Nat) (Q : World → Prop) (R : Act → World → Prop) : Nat → List Oper → Act → Prop
  | _, [], a => ∀ w, Q w → R a w
  | i, o :: rest, a => ∃ v, (∀ W, Pw W → RunsTo P ops o a W v (fun w' => if i = last then Q w' else Pw w')) ∧ LinU P ops Pw last Q R (i + 1) rest (a.put o.dst v)
theorem wp_region_tailU {P : Program} {ops : Array Oper} {id : Nat} {a : Act} {w : World} {Q : Exit → Act → World → Prop} (last : Nat) (Pw Qw : World → Prop) (hm : P.follows .mixedOrders = true) (hc : linCheck ops = true)
    (ha : ((List.range last).all (fun i => anc ops i last) && decide (ops.size = last + 1)) = true) (h0 : Pw w.drew) (h : LinU P ops Pw last Qw (fun a w => Q .normal a w) 0 ops.toList a) : (Code.region id ops true).wp P Q a w := by
  simp only [Bool.and_eq_true, List.all_eq_true, decide_eq_true_eq, List.mem_range] at ha
  obtain ⟨hanc, hsz⟩ := ha
  refine wp_region_lin (fun D w' => if D last = true then Qw w' else Pw w') hm hc (by simpa using h0) ?_
  have key : ∀ (l : List Oper) (i : Nat) (a : Act), (∀ k o, l[k]? = some o → ops[i + k]? = some o) → i + l.length = ops.size →
      LinU P ops Pw last Qw (fun a w => Q .normal a w) i l a → Lin P ops (fun D w' => if D last = true then Qw w' else Pw w') (fun a w => Q .normal a w) i l a := by
    intro l
    induction l with
    | nil =>
      intro i a _ hi h w' hw'
      simp only [List.length_nil, Nat.add_zero] at hi
      rw [if_pos (by simp; omega)] at hw'
      exact h w' hw'
    | cons o rest ih =>
      intro i a hl hi h
      obtain ⟨v, hv, hrest⟩ := h
      refine ⟨v, ?_, ih (i + 1) _ (fun k o' hk => by
        have := hl (k + 1) o' (by simpa using hk)
        rw [show i + 1 + k = i + (k + 1) by omega]; exact this) (by simp at hi ⊢; omega) hrest⟩
      intro D w' hw' hDi hdeps hdown
      have hlt : i ≤ last := by simp at hi; omega
      have hDl : D last = false := by
        cases hd : D last with
        | false => rfl
        | true =>
          rcases Nat.eq_or_lt_of_le hlt with e | e
          · rw [← e, hDi] at hd; cases hd
          · have := anc_sound (hanc i e) hdown hd
            rw [hDi] at this; cases this
      simp only [hDl, Bool.false_eq_true, if_false] at hw'
      refine (hv w' hw').mono fun w'' h2 => ?_
      by_cases he : i = last
      · rw [if_pos he] at h2
        simp only [he, beq_self_eq_true, Bool.or_true, if_true]; exact h2
      · rw [if_neg he] at h2
        have : (D last || last == i) = false := by rw [hDl]; simp; omega
        simp only [this, Bool.false_eq_true, if_false]; exact h2
  exact key ops.toList 0 a (by simp) (by simp) h
section
variable {P : Program} {ops : Array Oper} {Pw : World → Prop} {last : Nat} {Q : World → Prop} {R : Act → World → Prop} {i : Nat} {o : Oper} {rest : List Oper} {a a' : Act} {v : Value}
theorem LinU.done (h : ∀ w, Q w → R a w) : LinU P ops Pw last Q R i [] a := h
theorem LinU.rd (hw : Region.wanted o (yielded ops a.tmps) = true) (hi : i ≠ last) (h : ∀ W, Pw W → (execOp a.eval o).run P W = .ok (.value v) W) (ha : a.put o.dst v = a') (hr : LinU P ops Pw last Q R (i + 1) rest a') : LinU P ops Pw last Q R i (o :: rest) a :=
  ⟨v, fun W hW => RunsTo.val hw (h W hW) (by rw [if_neg hi]; exact hW), ha ▸ hr⟩
theorem LinU.pure (hw : Region.wanted o (yielded ops a.tmps) = true) (hi : i ≠ last) (h : ∀ W, (execOp a.eval o).run P W = .ok (.value v) W) (ha : a.put o.dst v = a') (hr : LinU P ops Pw last Q R (i + 1) rest a') : LinU P ops Pw last Q R i (o :: rest) a :=
  LinU.rd hw hi (fun W _ => h W) ha hr
theorem LinU.mid {f : Nat} {args : Array Value} (hw : Region.wanted o (yielded ops a.tmps) = true) (hi : i ≠ last) (h : ∀ W, (execOp a.eval o).run P W = .ok (.enter f args) W) (hc : ∀ W, Pw W → Calls P f args W (fun e w' => e = .returned v ∧ Pw w')) (ha : a.put o.dst v = a')
    (hr : LinU P ops Pw last Q R (i + 1) rest a') : LinU P ops Pw last Q R i (o :: rest) a :=
  ⟨v, fun W hW => by
    unfold RunsTo
    rw [if_pos hw, h W]
    exact (hc W hW).mono fun e w' ⟨he, hq⟩ => ⟨he, by show (if i = last then Q w' else Pw w'); rw [if_neg hi]; exact hq⟩, ha ▸ hr⟩
theorem LinU.call {f : Nat} {args : Array Value} (hw : Region.wanted o (yielded ops a.tmps) = true) (hi : i = last) (h : ∀ W, (execOp a.eval o).run P W = .ok (.enter f args) W) (hc : ∀ W, Pw W → Calls P f args W (fun e w' => e = .returned v ∧ Q w')) (ha : a.put o.dst v = a')
    (hr : LinU P ops Pw last Q R (i + 1) rest a') : LinU P ops Pw last Q R i (o :: rest) a :=
  ⟨v, fun W hW => by
    unfold RunsTo
    rw [if_pos hw, h W]
    exact (hc W hW).mono fun e w' ⟨he, hq⟩ => ⟨he, by show (if i = last then Q w' else Pw w'); rw [if_pos hi]; exact hq⟩, ha ▸ hr⟩
end
end Go.Proofs.Ytclingkhdmhhoaa
