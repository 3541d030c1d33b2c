/- Plain law: a region that draws its order, whose writing operations need no order among themselves: the world is told by which of them are done. No condition. -/
import Derived.Test.YtclingkhdmhhoaaAnyw
namespace Go.Proofs.Ytclingkhdmhhoaa
open Go.RowKit
set_option linter.unusedSimpArgs false

def subs : List Nat → List (List Nat)
  | [] => [[]]
  | x :: l => (subs l).map (x :: ·) ++ subs l
theorem filter_subs (p : Nat → Bool) : ∀ l : List Nat, l.filter p ∈ subs l
  | [] => by simp [subs]
  | x :: l => by
    have := filter_subs p l
    rw [List.filter_cons]
    unfold subs
    split
    · exact List.mem_append_left _ (List.mem_map.2 ⟨_, this, rfl⟩)
    · exact List.mem_append_right _ this
/-- these may be done where i comes -/
def admB (ops : Array Oper) (E S : List Nat) (i : Nat) : Bool := !S.contains i && E.all fun y => (!(anc ops y i) || S.contains y) && (!(anc ops i y) || !S.contains y) && E.all fun x => !(anc ops y x) || !S.contains x || S.contains y
def adm (ops : Array Oper) (E : List Nat) (i : Nat) : List (List Nat) := (subs E).filter fun S => admB ops E S i

def LinS (P : Program) (ops : Array Oper) (E : List Nat) (Wf : List Nat → World) (R : Act → Prop) : Nat → List Oper → Act → Prop
  | _, [], a => R a
  | i, o :: rest, a => ∃ v, (∀ S ∈ adm ops E i, RunsTo P ops o a (Wf (E.filter fun j => S.contains j)) v (fun w' => w' = Wf (E.filter fun j => S.contains j || j == i))) ∧ LinS P ops E Wf R (i + 1) rest (a.put o.dst v)

theorem filter_twice (E : List Nat) (D : Nat → Bool) (f : Nat → Bool) : (E.filter fun j => (E.filter D).contains j || f j) = E.filter fun j => D j || f j := by
  apply List.filter_congr
  intro x hx
  have : (E.filter D).contains x = D x := by
    rw [Bool.eq_iff_iff]
    simp [hx]
  rw [this]

theorem wp_region_sets {P : Program} {ops : Array Oper} {id : Nat} {a : Act} {w : World} {Q : Exit → Act → World → Prop} (E : List Nat) (Wf : List Nat → World) (hm : P.follows .mixedOrders = true) (hc : linCheck ops = true)
    (hE : E.all (fun i => decide (i < ops.size)) = true) (hW : Wf [] = w.drew) (h : LinS P ops E Wf (fun a => Q .normal a (Wf E)) 0 ops.toList a) : (Code.region id ops true).wp P Q a w := by
  simp only [List.all_eq_true, decide_eq_true_eq] at hE
  refine wp_region_lin (fun D w' => w' = Wf (E.filter D)) hm hc ?_ ?_
  · have e : (E.filter fun _ => false) = [] := by simp
    show w.drew = Wf (E.filter fun _ => false)
    rw [e, hW]
  · have key : ∀ (l : List Oper) (i : Nat) (a : Act), (∀ k o, l[k]? = some o → ops[i + k]? = some o) → i + l.length = ops.size →
        LinS P ops E Wf (fun a => Q .normal a (Wf E)) i l a → Lin P ops (fun D w' => w' = Wf (E.filter D)) (fun a w => Q .normal a w) i l a := by
      intro l
      induction l with
      | nil =>
        intro i a _ hsz h w hw
        have e : (E.filter fun j => decide (j < i)) = E := by
          rw [List.filter_eq_self]
          intro x hx
          have := hE x hx
          simp at hsz
          simp; omega
        rw [hw, e]
        exact h
      | cons o rest ih =>
        intro i a hget hsz h
        obtain ⟨v, hv, hrest⟩ := h
        refine ⟨v, ?_, ih (i + 1) _ (fun k o' hk => by
          have := hget (k + 1) o' (by simpa using hk)
          rw [show i + 1 + k = i + (k + 1) by omega]; exact this) (by simp at hsz ⊢; omega) hrest⟩
        intro D w hw hDi hdeps hdown
        subst hw
        have hoi : ops[i]? = some o := by simpa using hget 0 o rfl
        have hm : E.filter D ∈ adm ops E i := by
          unfold adm
          rw [List.mem_filter]
          refine ⟨filter_subs D E, ?_⟩
          have hin : ∀ x ∈ E, (E.filter D).contains x = D x := by
            intro x hx
            rw [Bool.eq_iff_iff]
            simp [hx]
          unfold admB
          rw [Bool.and_eq_true]
          refine ⟨by simp [hDi], ?_⟩
          rw [List.all_eq_true]
          intro y hy
          rw [hin y hy]
          simp only [Bool.and_eq_true, List.all_eq_true]
          refine ⟨⟨?_, ?_⟩, ?_⟩
          · -- what i waits for is done
            cases ha : anc ops y i with
            | false => rfl
            | true =>
              have hD' : Down ops (fun j => D j || j == i) := by
                intro j oj hj hoj e he hb
                simp only [Bool.or_eq_true, beq_iff_eq] at hj
                rcases hj with hj | rfl
                · simp [hdown j oj hj hoj e he hb]
                · have : oj = o := Option.some.inj (hoj.symm.trans hoi)
                  subst this
                  simp [hdeps e he hb]
              have h2 := anc_sound ha hD' (by simp)
              simp only [Bool.or_eq_true, beq_iff_eq] at h2
              rcases h2 with h2 | rfl
              · simp [h2]
              · exact (anc_self_false (linOk_of_check hc) ha).elim
          · cases ha : anc ops i y with
            | false => rfl
            | true =>
              cases hDy : D y with
              | false => rfl
              | true => have := anc_sound ha hdown hDy; rw [hDi] at this; cases this
          · intro x hx
            rw [hin x hx]
            cases ha : anc ops y x with
            | false => rfl
            | true =>
              cases hDx : D x with
              | false => rfl
              | true => have := anc_sound ha hdown hDx; simp [this]
        have h3 := hv _ hm
        have e1 : (E.filter fun j => (E.filter D).contains j) = E.filter D := by
          have := filter_twice E D (fun _ => false)
          simpa using this
        rw [e1, filter_twice E D] at h3
        exact h3
    exact key ops.toList 0 a (by simp) (by simp) h

section
variable {P : Program} {ops : Array Oper} {E : List Nat} {Wf : List Nat → World} {R : Act → Prop} {i : Nat} {o : Oper} {rest : List Oper} {a a' : Act} {v : Value}
theorem LinS.done (h : R a) : LinS P ops E Wf R i [] a := h
theorem filt_out {E S : List Nat} {i : Nat} (hE : E.contains i = false) : (E.filter fun j => S.contains j || j == i) = E.filter fun j => S.contains j := by
  apply List.filter_congr
  intro x hx
  have : x ≠ i := by rintro rfl; simp [hx] at hE
  simp [this]
theorem LinS.pure (hw : Region.wanted o (yielded ops a.tmps) = true) (hE : E.contains i = false) (h : ∀ w, (execOp a.eval o).run P w = .ok (.value v) w)
    (ha : a.put o.dst v = a') (hr : LinS P ops E Wf R (i + 1) rest a') : LinS P ops E Wf R i (o :: rest) a :=
  ⟨v, fun S _ => RunsTo.val hw (h _) (by rw [filt_out hE]), ha ▸ hr⟩
/-- a load; As: what may be done there -/
theorem LinS.rd (As : List (List Nat)) (hA : adm ops E i = As) (hw : Region.wanted o (yielded ops a.tmps) = true) (hE : E.contains i = false)
    (h : ∀ S ∈ As, (execOp a.eval o).run P (Wf (E.filter fun j => S.contains j)) = .ok (.value v) (Wf (E.filter fun j => S.contains j)))
    (ha : a.put o.dst v = a') (hr : LinS P ops E Wf R (i + 1) rest a') : LinS P ops E Wf R i (o :: rest) a :=
  ⟨v, fun S hS => RunsTo.val hw (h S (hA ▸ hS)) (by rw [filt_out hE]), ha ▸ hr⟩
theorem LinS.write (As : List (List Nat)) (hA : adm ops E i = As) (hw : Region.wanted o (yielded ops a.tmps) = true)
    (h : ∀ S ∈ As, (execOp a.eval o).run P (Wf (E.filter fun j => S.contains j)) = .ok (.value v) (Wf (E.filter fun j => S.contains j || j == i)))
    (ha : a.put o.dst v = a') (hr : LinS P ops E Wf R (i + 1) rest a') : LinS P ops E Wf R i (o :: rest) a :=
  ⟨v, fun S hS => RunsTo.val hw (h S (hA ▸ hS)) rfl, ha ▸ hr⟩
theorem LinS.store (As : List (List Nat)) (hA : adm ops E i = As) (hw : Region.wanted o (yielded ops a.tmps) = true)
    (h : ∀ S ∈ As, (execOp a.eval o).run P (Wf (E.filter fun j => S.contains j)) = .ok .skip (Wf (E.filter fun j => S.contains j || j == i)))
    (ha : a.put o.dst undef = a') (hr : LinS P ops E Wf R (i + 1) rest a') : LinS P ops E Wf R i (o :: rest) a :=
  ⟨undef, fun S hS => RunsTo.skp hw (h S (hA ▸ hS)) rfl, ha ▸ hr⟩
end
theorem setBlk_comm {w : World} {b c : Nat} (h : b ≠ c) (o p : Obj) : setBlk (setBlk w b o) c p = setBlk (setBlk w c p) b o := by
  unfold setBlk
  congr 1
  exact Array.setIfInBounds_comm _ _ h
theorem in1 {α : Type} {a : α} {p : α → Prop} (h : p a) : ∀ S ∈ [a], p S := by
  intro S hS; rw [List.mem_singleton.1 hS]; exact h
theorem in2 {α : Type} {a b : α} {p : α → Prop} (h : p a) (h2 : p b) : ∀ S ∈ [a, b], p S := by
  intro S hS
  simp only [List.mem_cons, List.not_mem_nil, or_false] at hS
  rcases hS with rfl | rfl
  · exact h
  · exact h2
end Go.Proofs.Ytclingkhdmhhoaa
