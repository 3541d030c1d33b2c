/- Plain law: a region that draws its order, proved operation by operation in the text's order: each operation's value must be the same in every world in which it may come. No condition. -/
import Derived.Test.YtclingkhdmhhoaaTab
namespace Go.Proofs.Ytclingkhdmhhoaa
open Go.RowKit

theorem getD_fls {listed : Array Bool} {i : Nat} (h : listed.getD i true = false) : listed.getD i false = false := by
  rcases Nat.lt_or_ge i listed.size with h' | h'
  · simp [h'] at h ⊢; exact h
  · simp [Array.getElem?_eq_none h'] at h
theorem getD_none_done (m j : Nat) : (Array.replicate m false).getD j false = false := by
  rcases Nat.lt_or_ge j m with h | h
  · simp [h]
  · simp [h]

section
variable (P : Program) (ops : Array Oper)

/-- the operation gives v, and what is behind it is R -/
def RunsTo (o : Oper) (a : Act) (w : World) (v : Value) (R : World → Prop) : Prop :=
  if Region.wanted o (yielded ops a.tmps) = true then
    match (execOp a.eval o).run P w with
    | .ok (.value u) w' => u = v ∧ R w'
    | .ok .skip w' => v = undef ∧ R w'
    | .ok (.enter f args) w' => Calls P f args w' (fun e w'' => e = .returned v ∧ R w'')
    | _ => False
  else v = undef ∧ R w

/-- the operations one by one in the text's order; K: what holds of the world, by which are done -/
def Lin (K : (Nat → Bool) → World → Prop) (R : Act → World → Prop) : Nat → List Oper → Act → Prop
  | i, [], a => ∀ w, K (fun j => decide (j < i)) w → R a w
  | i, o :: rest, a => ∃ v, (∀ D w, K D w → D i = false → (∀ e ∈ o.after, Region.binds .any e = true → D e.on = true) →
      (∀ j oj, D j = true → ops[j]? = some oj → ∀ e ∈ oj.after, Region.binds .any e = true → D e.on = true) →
      RunsTo P ops o a w v (fun w' => K (fun j => D j || j == i) w')) ∧ Lin K R (i + 1) rest (a.put o.dst v)

def dstOf (j : Nat) : Option Tmp := (ops[j]?).bind (·.dst)
def writer (t : Tmp) : Option Nat := (List.range ops.size).find? fun j => dstOf ops j == some t
def dep (i j : Nat) : Bool := match ops[i]? with | some o => o.after.any fun e => Region.binds .any e && e.on == j | none => false
def linCheck : Bool :=
  Region.noSelect ops &&
  (List.range ops.size).all fun i => match ops[i]? with
    | none => true
    | some o => (match o.dst with | some t => writer ops t == some i | none => true) &&
      o.after.all (fun e => !Region.binds .any e || decide (e.on < i)) &&
      (o.looksAt ops).all fun t => match writer ops t with
        | none => true
        | some j => j == i || (decide (j < i) && dep ops i j) || (decide (i < j) && dep ops j i)
end

section
variable {P : Program} {ops : Array Oper}

theorem RunsTo.wpOp {i : Nat} {o : Oper} {a : Act} {w : World} {v : Value} {R : World → Prop} {Q : Exit → Act → World → Prop} {K : Act → World → Prop} (hi : ops[i]? = some o)
    (h : RunsTo P ops o a w v R) (hk : ∀ w', R w' → K (a.put o.dst v) w') : wpOp P ops Q i K a w := by
  unfold Go.wpOp
  simp only [hi]
  unfold RunsTo at h
  split
  · rename_i hw
    rw [if_pos hw] at h
    refine .inl ?_
    unfold Oper.wp
    generalize (execOp a.eval o).run P w = r at *
    cases r with
    | ok n w' =>
      cases n <;> simp only [] at h <;> simp only [Oper.upon]
      case value u => obtain ⟨rfl, h2⟩ := h; exact hk _ h2
      case skip => obtain ⟨rfl, h2⟩ := h; exact hk _ h2
      case enter f args => exact h.mono fun e w'' ⟨he, h2⟩ => by subst he; exact hk _ h2
    | halt x w' => simp only [] at h
  · rename_i hw
    rw [if_neg hw] at h
    obtain ⟨rfl, h2⟩ := h
    exact hk _ h2

theorem RunsTo.congr {o : Oper} {a b : Act} {w : World} {v : Value} {R : World → Prop} (hs : ∀ cs b, o.op ≠ .select cs b) (h : ∀ t ∈ o.looksAt ops, b.tmps[t]? = a.tmps[t]?)
    (hr : RunsTo P ops o a w v R) : RunsTo P ops o b w v R := by
  have he : execOp b.eval o = execOp a.eval o := execOp_congr o hs fun x hx => by
    cases x with
    | tmp t =>
      have := h t (List.mem_append_left _ (List.mem_filterMap.2 ⟨.tmp t, by simpa using hx, rfl⟩))
      simp [Act.eval, this]
    | _ => rfl
  have hw : Region.wanted o (yielded ops b.tmps) = Region.wanted o (yielded ops a.tmps) := by
    unfold Region.wanted
    cases hg : o.guard with
    | none => rfl
    | some gw =>
      obtain ⟨g, want⟩ := gw
      have hy : yielded ops b.tmps g = yielded ops a.tmps g := by
        unfold yielded
        cases ht : (ops[g]?).bind (·.dst) with
        | none => rfl
        | some t =>
          have := h t (List.mem_append_right _ (by simp [hg, ht]))
          simp [this]
      simp only [hy]
  unfold RunsTo at *
  rw [he, hw]
  exact hr

theorem writer_spec {t : Tmp} {j : Nat} (h : writer ops t = some j) : dstOf ops j = some t := by
  have := List.find?_some h
  simpa using this
theorem writer_none {t : Tmp} (h : writer ops t = none) (j : Nat) (hj : j < ops.size) : dstOf ops j ≠ some t := by
  have := List.find?_eq_none.1 h j (List.mem_range.2 hj)
  simpa using this

structure LinOk (ops : Array Oper) : Prop where
  sel : Region.noSelect ops = true
  uniq : ∀ i o t, ops[i]? = some o → o.dst = some t → writer ops t = some i
  back : ∀ i o, ops[i]? = some o → ∀ e ∈ o.after, Region.binds .any e = true → e.on < i
  looks : ∀ i o, ops[i]? = some o → ∀ t ∈ o.looksAt ops, ∀ j, writer ops t = some j → j = i ∨ (j < i ∧ dep ops i j = true) ∨ (i < j ∧ dep ops j i = true)

theorem linOk_of_check (h : linCheck ops = true) : LinOk ops := by
  unfold linCheck at h
  rw [Bool.and_eq_true, List.all_eq_true] at h
  obtain ⟨h0, h⟩ := h
  have get : ∀ i o, ops[i]? = some o → i ∈ List.range ops.size := fun i o hi => List.mem_range.2 (Array.getElem?_eq_some_iff.1 hi).1
  refine ⟨h0, ?_, ?_, ?_⟩
  · intro i o t hi ht
    have := h i (get i o hi)
    simp only [hi, ht, Bool.and_eq_true, beq_iff_eq] at this
    exact this.1.1
  · intro i o hi e he hb
    have := h i (get i o hi)
    simp only [hi, Bool.and_eq_true] at this
    have h2 := Array.all_eq_true_iff_forall_mem.1 this.1.2 e he
    simpa [hb] using h2
  · intro i o hi t ht j hj
    have := h i (get i o hi)
    simp only [hi, Bool.and_eq_true] at this
    have h2 := List.all_eq_true.1 this.2 t ht
    simp only [hj, Bool.or_eq_true, Bool.and_eq_true, beq_iff_eq, decide_eq_true_eq] at h2
    rcases h2 with (h2 | h2) | h2
    · exact .inl h2
    · exact .inr (.inl h2)
    · exact .inr (.inr h2)

theorem dep_spec {i j : Nat} (h : dep ops i j = true) : ∃ o, ops[i]? = some o ∧ ∃ e ∈ o.after, Region.binds .any e = true ∧ e.on = j := by
  unfold dep at h
  split at h
  · rename_i o ho
    obtain ⟨e, he, hb⟩ := Array.any_eq_true'.1 h
    simp only [Bool.and_eq_true, beq_iff_eq] at hb
    exact ⟨o, ho, e, he, hb.1, hb.2⟩
  · cases h

/-- the slots, by which operations are done -/
def slotAt (ops : Array Oper) (a : Act) (vals : Nat → Value) (D : Nat → Bool) (t : Tmp) : Option Value :=
  match writer ops t with
  | some j => if D j = true then (if t < a.tmps.size then some (vals j) else none) else a.tmps[t]?
  | none => a.tmps[t]?
structure Over (ops : Array Oper) (a : Act) (vals : Nat → Value) (D : Nat → Bool) (b : Act) : Prop where
  defers : b.defers = a.defers
  size : b.tmps.size = a.tmps.size
  slots : ∀ t, b.tmps[t]? = slotAt ops a vals D t

theorem Over.put {a b : Act} {vals : Nat → Value} {D : Nat → Bool} {i : Nat} {o : Oper} (ok : LinOk ops) (hi : ops[i]? = some o) (h : Over ops a vals D b) :
    Over ops a vals (fun j => D j || j == i) (b.put o.dst (vals i)) := by
  cases hd : o.dst with
  | none =>
    refine ⟨by simp [Act.put, h.defers], by simp [Act.put, h.size], fun t => ?_⟩
    have h1 := h.slots t
    simp only [Act.put]
    rw [h1]
    unfold slotAt
    cases hw : writer ops t with
    | none => rfl
    | some j =>
      have hji : j ≠ i := by
        rintro rfl
        have := writer_spec hw
        simp [dstOf, hi, hd] at this
      simp [hji]
  | some d =>
    refine ⟨by simp [Act.put, h.defers], by simp [Act.put, h.size], fun t => ?_⟩
    have h1 := h.slots t
    have hwd := ok.uniq i o d hi hd
    simp only [Act.put]
    by_cases htd : t = d
    · subst htd
      simp [slotAt, hwd, Array.getElem?_setIfInBounds, h.size]
    · rw [Array.getElem?_setIfInBounds_ne (Ne.symm htd), h1]
      unfold slotAt
      cases hw : writer ops t with
      | none => rfl
      | some j =>
        have hji : j ≠ i := by
          rintro rfl
          have := writer_spec hw
          simp [dstOf, hi, hd] at this
          exact htd this.symm
        simp [hji]

def countF : List Bool → Nat
  | [] => 0
  | b :: l => (if b then 0 else 1) + countF l
theorem countF_set : ∀ (l : List Bool) (i : Nat), l[i]? = some false → countF (l.set i true) + 1 = countF l
  | [], i, h => by simp at h
  | b :: l, 0, h => by simp at h; subst h; simp [countF]; omega
  | b :: l, i + 1, h => by
    have := countF_set l i (by simpa using h)
    simp only [List.set_cons_succ, countF]
    omega
theorem countF_zero : ∀ (l : List Bool), countF l = 0 → ∀ i (h : i < l.length), l[i] = true
  | [], _, i, h => by simp at h
  | b :: l, h0, i, h => by
    have hb : b = true := by cases b <;> simp [countF] at h0 ⊢
    cases i with
    | zero => simpa using hb
    | succ i => exact countF_zero l (by simp [countF, hb] at h0; exact h0) i (by simpa using h)
theorem countF_replicate (n : Nat) : countF (List.replicate n false) = n := by
  induction n with
  | zero => rfl
  | succ n ih => simp [List.replicate_succ, countF, ih]; omega

variable {K : (Nat → Bool) → World → Prop} {R : Act → World → Prop}

/-- what 'Lin' says, with the values as a function of the place -/
theorem lin_vals : ∀ (l : List Oper) (i : Nat) (a : Act), Lin P ops K R i l a → (∀ k o, l[k]? = some o → ops[i + k]? = some o) →
    ∃ (vals : Nat → Value) (T : Nat → Act), T i = a ∧ (∀ k o, l[k]? = some o → T (i + k + 1) = (T (i + k)).put o.dst (vals (i + k)) ∧
      ∀ D w, K D w → D (i + k) = false → (∀ e ∈ o.after, Region.binds .any e = true → D e.on = true) →
        (∀ j oj, D j = true → ops[j]? = some oj → ∀ e ∈ oj.after, Region.binds .any e = true → D e.on = true) →
        RunsTo P ops o (T (i + k)) w (vals (i + k)) (fun w' => K (fun j => D j || j == i + k) w')) ∧
      ∀ w, K (fun j => decide (j < i + l.length)) w → R (T (i + l.length)) w
  | [], i, a, h, _ => ⟨fun _ => undef, fun _ => a, rfl, by simp, by simpa [Lin] using h⟩
  | o :: rest, i, a, h, hget => by
    obtain ⟨v, hv, hrest⟩ := h
    obtain ⟨vals, T, hT, hstep, hend⟩ := lin_vals rest (i + 1) _ hrest (fun k o' hk => by
      have := hget (k + 1) o' (by simpa using hk)
      rw [show i + 1 + k = i + (k + 1) by omega]; exact this)
    refine ⟨fun j => if j = i then v else vals j, fun j => if j = i then a else T j, by simp, ?_, ?_⟩
    · intro k o' hk
      cases k with
      | zero =>
        obtain rfl : o = o' := by simpa using hk
        refine ⟨by simp [hT], ?_⟩
        intro D w hK hD he hdown
        simpa using hv D w hK (by simpa using hD) he hdown
      | succ k =>
        have h1 := hstep k o' (by simpa using hk)
        have e1 : i + (k + 1) = i + 1 + k := by omega
        have e2 : i + 1 + k ≠ i := by omega
        have e3 : i + 1 + k + 1 ≠ i := by omega
        rw [e1]
        simp only [e2, e3, if_false]
        exact h1
    · intro w hw
      have e : i + (o :: rest).length = i + 1 + rest.length := by simp; omega
      rw [e] at hw ⊢
      simp only [show i + 1 + rest.length ≠ i by omega, if_false]
      exact hend w hw

theorem wpAny_lin {Q : Exit → Act → World → Prop} (ok : LinOk ops) {a : Act} {vals : Nat → Value} {T : Nat → Act}
    (hT : ∀ i, i ≤ ops.size → Over ops a vals (fun j => decide (j < i)) (T i))
    (hstep : ∀ i o, ops[i]? = some o → ∀ D w, K D w → D i = false → (∀ e ∈ o.after, Region.binds .any e = true → D e.on = true) →
        (∀ j oj, D j = true → ops[j]? = some oj → ∀ e ∈ oj.after, Region.binds .any e = true → D e.on = true) →
        RunsTo P ops o (T i) w (vals i) (fun w' => K (fun j => D j || j == i) w'))
    (hend : ∀ w, K (fun j => decide (j < ops.size)) w → Q .normal (T ops.size) w) :
    ∀ (fuel : Nat) (listed : Array Bool) (b : Act) (w : World), listed.size = ops.size → countF listed.toList ≤ fuel → K (fun j => listed.getD j false) w →
      (∀ j oj, listed.getD j false = true → ops[j]? = some oj → ∀ e ∈ oj.after, Region.binds .any e = true → listed.getD e.on false = true) →
      Over ops a vals (fun j => listed.getD j false) b → wpAny P .any ops Q fuel listed b w := by
  intro fuel
  have allDone : ∀ (listed : Array Bool) (b : Act) (w : World), listed.size = ops.size → K (fun j => listed.getD j false) w → Over ops a vals (fun j => listed.getD j false) b →
      (∀ i, i < ops.size → listed.getD i false = true) → Q .normal b w := by
    intro listed b w hsz hK hO hall
    have e : (fun j => listed.getD j false) = (fun j => decide (j < ops.size)) := by
      funext j
      by_cases hj : j < ops.size
      · rw [hall j hj]; simp [hj]
      · have : ¬ j < listed.size := by omega
        simp [this, hj]
    rw [e] at hK hO
    have hb : b = T ops.size := by
      have h2 := hT ops.size (Nat.le_refl _)
      cases b with
      | mk tm df =>
        cases hTT : T ops.size with
        | mk tm' df' =>
          rw [hTT] at h2
          have e1 : tm = tm' := Array.ext_getElem? fun t => (hO.slots t).trans (h2.slots t).symm
          have e2 : df = df' := hO.defers.trans h2.defers.symm
          rw [e1, e2]
    rw [hb]
    exact hend w hK
  have readyOf : ∀ (listed : Array Bool), listed.size = ops.size → Region.ready .any ops listed = [] → ∀ i, i < ops.size → listed.getD i false = true := by
    intro listed hsz hr i
    induction i using Nat.strongRecOn with
    | _ i ih =>
      intro hi
      cases hl : listed.getD i false with
      | true => rfl
      | false =>
        have hm : i ∈ Region.ready .any ops listed := by
          rw [mem_ready]
          refine ⟨?_, ops[i], Array.getElem?_eq_getElem hi, ?_⟩
          · have : i < listed.size := by omega
            simp [this] at hl ⊢; exact hl
          · intro e he hb
            have hlt := ok.back i ops[i] (Array.getElem?_eq_getElem hi) e he hb
            exact ih e.on hlt (by omega)
        rw [hr] at hm
        cases hm
  induction fuel with
  | zero =>
    intro listed b w hsz hc hK hdown hO
    have hall : ∀ i, i < ops.size → listed.getD i false = true := by
      intro i hi
      have h' : i < listed.size := by omega
      have := countF_zero listed.toList (by omega) i (by simpa using h')
      simpa [h'] using this
    refine ⟨?_, allDone listed b w hsz hK hO hall⟩
    apply List.eq_nil_iff_forall_not_mem.2
    intro i hi
    obtain ⟨h1, o, ho, _⟩ := mem_ready.1 hi
    have hlt := (Array.getElem?_eq_some_iff.1 ho).1
    have h2 := hall i hlt
    have h' : i < listed.size := by omega
    simp [h'] at h1 h2
    rw [h1] at h2; cases h2
  | succ fuel ih =>
    intro listed b w hsz hc hK hdown hO
    refine ⟨fun hr => allDone listed b w hsz hK hO (readyOf listed hsz hr), fun i hi => ?_⟩
    obtain ⟨h1, o, ho, hdeps⟩ := mem_ready.1 hi
    have hlt := (Array.getElem?_eq_some_iff.1 ho).1
    have h' : i < listed.size := by omega
    have hDi : listed.getD i false = false := getD_fls h1
    have hR := hstep i o ho (fun j => listed.getD j false) w hK hDi hdeps hdown
    have hlook : ∀ t ∈ o.looksAt ops, b.tmps[t]? = (T i).tmps[t]? := by
      intro t ht
      rw [hO.slots t, (hT i (by omega)).slots t]
      unfold slotAt
      cases hw : writer ops t with
      | none => rfl
      | some j =>
        simp only [decide_eq_true_eq]
        rcases ok.looks i o ho t ht j hw with rfl | ⟨hji, hd⟩ | ⟨hij, hd⟩
        · simp [hDi]
        · obtain ⟨o', ho', e, he, hb, hon⟩ := dep_spec hd
          have : o' = o := Option.some.inj (ho'.symm.trans ho)
          subst this
          have := hdeps e he hb
          rw [hon] at this
          simp [this, hji]
        · obtain ⟨o', ho', e, he, hb, hon⟩ := dep_spec hd
          have hnj : listed.getD j false = false := by
            cases hj : listed.getD j false with
            | false => rfl
            | true =>
              have := hdown j o' hj ho' e he hb
              rw [hon, hDi] at this
              cases this
          simp [hnj, show ¬ j < i by omega]
    have hsel : ∀ cs b, o.op ≠ .select cs b := fun cs b => Region.noSelect_spec ok.sel i o cs b ho
    refine (RunsTo.congr hsel hlook hR).wpOp ho fun w' hK' => ?_
    have eD : (fun j => (listed.setIfInBounds i true).getD j false) = (fun j => listed.getD j false || j == i) := by
      funext j
      by_cases hji : j = i
      · subst hji; simp [h']
      · rw [getD_set_ne false (Ne.symm hji)]; simp [hji]
    refine ih (listed.setIfInBounds i true) _ w' (by simp [hsz]) ?_ (by rw [eD]; exact hK') ?_ (by rw [eD]; exact hO.put ok ho)
    · have := countF_set listed.toList i (by
        have hx := h1
        simp [h'] at hx
        simp [h', hx])
      rw [Array.toList_setIfInBounds]
      omega
    · intro j oj hj hoj e he hb
      by_cases hji : j = i
      · subst hji
        have : oj = o := Option.some.inj (hoj.symm.trans ho)
        subst this
        exact getD_set_true (hdeps e he hb)
      · rw [getD_set_ne false (Ne.symm hji)] at hj
        exact getD_set_true (hdown j oj hj hoj e he hb)

/-- A REGION THAT DRAWS ITS ORDER -/
theorem wp_region_lin {id : Nat} {a : Act} {w : World} {Q : Exit → Act → World → Prop} (K : (Nat → Bool) → World → Prop) (hm : P.follows .mixedOrders = true) (hc : linCheck ops = true)
    (hK : K (fun _ => false) w.drew) (h : Lin P ops K (fun a w => Q .normal a w) 0 ops.toList a) : (Code.region id ops true).wp P Q a w := by
  have ok := linOk_of_check hc
  obtain ⟨vals, T, hT0, hstep, hend⟩ := lin_vals ops.toList 0 a h (by simp)
  simp only [Nat.zero_add] at hstep hend
  have hT : ∀ i, i ≤ ops.size → Over ops a vals (fun j => decide (j < i)) (T i) := by
    intro i
    induction i with
    | zero =>
      intro _
      rw [hT0]
      refine ⟨rfl, rfl, fun t => ?_⟩
      unfold slotAt
      cases writer ops t <;> simp
    | succ i ih =>
      intro hi
      have hget : ops[i]? = some ops[i] := Array.getElem?_eq_getElem (by omega)
      have hs := (hstep i ops[i] (by simp [hget])).1
      rw [hs]
      have := (ih (by omega)).put ok hget
      have e : (fun j => decide (j < i) || j == i) = (fun j => decide (j < i + 1)) := by
        funext j
        rw [Bool.eq_iff_iff]
        simp
        omega
      rw [e] at this
      exact this
  refine wp_region_any hm (wpAny_lin ok hT (fun i o hi => (hstep i o (by simpa using hi)).2) (by simpa using hend) ops.size (Array.replicate ops.size false) a _ (by simp) (by simp [countF_replicate]) ?_ ?_ ?_)
  · have e : (fun j => (Array.replicate ops.size false).getD j false) = fun _ => false := by
      funext j; exact getD_none_done _ _
    rw [e]; exact hK
  · intro j oj hj
    rw [getD_none_done] at hj
    cases hj
  · have e : (fun j => (Array.replicate ops.size false).getD j false) = fun _ => false := by
      funext j; exact getD_none_done _ _
    rw [e]
    have := hT 0 (Nat.zero_le _)
    rw [hT0] at this
    simpa using this
end
#print axioms wp_region_lin
end Go.Proofs.Ytclingkhdmhhoaa
