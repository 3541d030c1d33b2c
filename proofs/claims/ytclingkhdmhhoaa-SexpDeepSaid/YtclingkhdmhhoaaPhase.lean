/- Plain law: a region that draws its order, whose writing operations come in one order: the worlds are numbered by how many of these are done. No condition. -/
import Derived.Test.YtclingkhdmhhoaaLaws2
namespace Go.Proofs.Ytclingkhdmhhoaa
open Go.RowKit
set_option linter.unusedSimpArgs false

def Down (ops : Array Oper) (D : Nat → Bool) : Prop := ∀ j oj, D j = true → ops[j]? = some oj → ∀ e ∈ oj.after, Region.binds .any e = true → D e.on = true

def maskStep (acc : Array Nat) (s : Nat) (e : Edge) : Nat := if Region.binds .any e then s ||| 2 ^ e.on ||| acc.getD e.on 0 else s

theorem mask_sound {acc : Array Nat} {i : Nat} {R : Nat → Prop} (hacc : ∀ k, (acc.getD k 0).testBit i = true → R k) : ∀ (l : List Edge) (s : Nat),
    (l.foldl (maskStep acc) s).testBit i = true → s.testBit i = true ∨ ∃ e ∈ l, Region.binds .any e = true ∧ (e.on = i ∨ R e.on)
  | [], s, h => .inl h
  | e :: l, s, h => by
    rw [List.foldl_cons] at h
    rcases mask_sound hacc l _ h with h | ⟨e', he', hb, hr⟩
    · unfold maskStep at h
      split at h
      · rename_i hb
        rw [Nat.testBit_or, Nat.testBit_or, Bool.or_eq_true, Bool.or_eq_true] at h
        rcases h with (h | h) | h
        · exact .inl h
        · refine .inr ⟨e, by simp, hb, .inl ?_⟩
          rw [Nat.testBit_two_pow] at h
          simpa using h
        · exact .inr ⟨e, by simp, hb, .inr (hacc _ h)⟩
      · exact .inl h
    · exact .inr ⟨e', by simp [he'], hb, hr⟩

theorem before_go {ops : Array Oper} {D : Nat → Bool} (hD : Down ops D) {i : Nat} (hi : D i = false) : ∀ (l : List Oper) (acc : Array Nat),
    (∀ k o, l[k]? = some o → ops[acc.size + k]? = some o) → (∀ j, (acc.getD j 0).testBit i = true → D j = false) →
    ∀ j, ((l.foldl (fun acc o => acc.push (o.after.foldl (maskStep acc) 0)) acc).getD j 0).testBit i = true → D j = false
  | [], acc, _, h => h
  | o :: l, acc, hl, h => by
    rw [List.foldl_cons]
    refine before_go hD hi l _ ?_ ?_
    · intro k o' hk
      have := hl (k + 1) o' (by simpa using hk)
      rw [Array.size_push, show acc.size + 1 + k = acc.size + (k + 1) by omega]
      exact this
    · intro j hj
      by_cases hjs : j < acc.size
      · refine h j ?_
        have e : (acc.push (o.after.foldl (maskStep acc) 0)).getD j 0 = acc.getD j 0 := by
          simp [Array.getD_eq_getD_getElem?, Array.getElem?_push, Nat.ne_of_lt hjs]
        rw [e] at hj; exact hj
      · by_cases hje : j = acc.size
        · subst hje
          have e : (acc.push (o.after.foldl (maskStep acc) 0)).getD acc.size 0 = o.after.foldl (maskStep acc) 0 := by
            simp [Array.getD_eq_getD_getElem?]
          rw [e, ← Array.foldl_toList] at hj
          have ho : ops[acc.size]? = some o := by simpa using hl 0 o rfl
          cases hDj : D acc.size with
          | false => rfl
          | true =>
            rcases mask_sound h _ _ hj with h0 | ⟨e, he, hb, hr⟩
            · simp at h0
            · have h1 := hD acc.size o hDj ho e (by simpa using he) hb
              rcases hr with hr | hr
              · rw [hr, hi] at h1; cases h1
              · rw [hr] at h1; cases h1
        · have e : (acc.push (o.after.foldl (maskStep acc) 0)).getD j 0 = 0 := by
            have hn : (acc.push (o.after.foldl (maskStep acc) 0))[j]? = none := Array.getElem?_eq_none (by simp; omega)
            simp [Array.getD_eq_getD_getElem?, hn]
          rw [e] at hj
          simp at hj

/-- is i among what j waits for? -/
def anc (ops : Array Oper) (i j : Nat) : Bool := ((Region.before ops).getD j 0).testBit i
theorem anc_sound {ops : Array Oper} {i j : Nat} (h : anc ops i j = true) {D : Nat → Bool} (hD : Down ops D) (hj : D j = true) : D i = true := by
  cases hi : D i with
  | true => rfl
  | false =>
    have h2 : ((ops.toList.foldl (fun (acc : Array Nat) (o : Oper) => acc.push (o.after.foldl (maskStep acc) 0)) #[]).getD j 0).testBit i = true := by
      unfold anc Region.before at h
      rw [← Array.foldl_toList] at h
      exact h
    have := before_go hD hi ops.toList #[] (by simp) (by simp) j h2
    rw [hj] at this
    cases this

theorem anc_self_false {ops : Array Oper} (ok : LinOk ops) {i : Nat} (h : anc ops i i = true) : False := by
  have hD : Down ops (fun j => decide (j < i) || (decide (j = i))) := by
    intro j oj hj hoj e he hb
    have := ok.back j oj hoj e he hb
    simp at hj ⊢
    omega
  -- all that i waits for lies ahead of it
  have key : ∀ (l : List Oper) (acc : Array Nat), (∀ k o, l[k]? = some o → ops[acc.size + k]? = some o) → (∀ j x, (acc.getD j 0).testBit x = true → x < j) →
      ∀ j x, ((l.foldl (fun acc o => acc.push (o.after.foldl (maskStep acc) 0)) acc).getD j 0).testBit x = true → x < j := by
    intro l
    induction l with
    | nil => intro acc _ h; exact h
    | cons o l ih =>
      intro acc hl h
      rw [List.foldl_cons]
      refine ih _ (fun k o' hk => by
        have := hl (k + 1) o' (by simpa using hk)
        rw [Array.size_push, show acc.size + 1 + k = acc.size + (k + 1) by omega]; exact this) ?_
      intro j x hx
      by_cases hjs : j < acc.size
      · refine h j x ?_
        have e : (acc.push (o.after.foldl (maskStep acc) 0)).getD j 0 = acc.getD j 0 := by
          simp [Array.getD_eq_getD_getElem?, Array.getElem?_push, Nat.ne_of_lt hjs]
        rw [e] at hx; exact hx
      · by_cases hje : j = acc.size
        · subst hje
          have e : (acc.push (o.after.foldl (maskStep acc) 0)).getD acc.size 0 = o.after.foldl (maskStep acc) 0 := by
            simp [Array.getD_eq_getD_getElem?]
          rw [e, ← Array.foldl_toList] at hx
          have ho : ops[acc.size]? = some o := by simpa using hl 0 o rfl
          rcases mask_sound (R := fun k => x < k) (fun k hk => h k x hk) _ _ hx with h0 | ⟨e, he, hb, hr⟩
          · simp at h0
          · have := ok.back acc.size o ho e (by simpa using he) hb
            omega
        · have e : (acc.push (o.after.foldl (maskStep acc) 0)).getD j 0 = 0 := by
            have hn : (acc.push (o.after.foldl (maskStep acc) 0))[j]? = none := Array.getElem?_eq_none (by simp; omega)
            simp [Array.getD_eq_getD_getElem?, hn]
          rw [e] at hx
          simp at hx
  have h2 : ((ops.toList.foldl (fun (acc : Array Nat) (o : Oper) => acc.push (o.after.foldl (maskStep acc) 0)) #[]).getD i 0).testBit i = true := by
    unfold anc Region.before at h
    rw [← Array.foldl_toList] at h
    exact h
  have := key ops.toList #[] (by simp) (by simp) i i h2
  omega

/-- how many of the writing operations are done -/
def phase (E : List Nat) (D : Nat → Bool) : Nat := (E.takeWhile D).length
/-- ahead of i: the writing operations that i waits for; not behind it: those that don't wait for i -/
def lo (ops : Array Oper) (E : List Nat) (i : Nat) : Nat := (E.takeWhile fun j => anc ops j i).length
def hi (ops : Array Oper) (E : List Nat) (i : Nat) : Nat := (E.takeWhile fun j => !anc ops i j && j != i).length
def chain (ops : Array Oper) : List Nat → Bool
  | [] => true
  | [_] => true
  | i :: j :: l => anc ops i j && chain ops (j :: l)

def LinP (P : Program) (ops : Array Oper) (E : List Nat) (Ws : Nat → World) (R : Act → Prop) : Nat → List Oper → Act → Prop
  | _, [], a => R a
  | i, o :: rest, a => ∃ v, (∀ p, lo ops E i ≤ p → p ≤ hi ops E i → RunsTo P ops o a (Ws p) v (fun w' => w' = Ws (if E.contains i then p + 1 else p))) ∧ LinP P ops E Ws R (i + 1) rest (a.put o.dst v)

theorem takeWhile_length_mono {p q : Nat → Bool} : ∀ (l : List Nat), (∀ x ∈ l, p x = true → q x = true) → (l.takeWhile p).length ≤ (l.takeWhile q).length
  | [], _ => by simp
  | x :: l, h => by
    cases hp : p x with
    | false => simp [List.takeWhile_cons, hp]
    | true =>
      have hq := h x (by simp) hp
      have := takeWhile_length_mono l (fun y hy => h y (by simp [hy]))
      simp [List.takeWhile_cons, hp, hq]
      omega

theorem phase_event {ops : Array Oper} {E : List Nat} (hc : chain ops E = true) {D : Nat → Bool} (hD : Down ops D) {i : Nat} (hi : D i = false) (hm : i ∈ E) (hready : ∀ o, ops[i]? = some o → ∀ e ∈ o.after, Region.binds .any e = true → D e.on = true)
    (hn : E.Nodup) : phase E (fun j => D j || j == i) = phase E D + 1 := by
  unfold phase
  induction E with
  | nil => cases hm
  | cons x l ih =>
    by_cases hx : x = i
    · subst hx
      have hl : (l.takeWhile fun j => D j || j == x) = [] := by
        cases l with
        | nil => rfl
        | cons y l' =>
          simp only [chain, Bool.and_eq_true] at hc
          have hy : D y = false := by
            cases hy : D y with
            | false => rfl
            | true => have := anc_sound hc.1 hD hy; rw [hi] at this; cases this
          have hne : (y == x) = false := by
            rw [beq_eq_false_iff_ne]
            rintro rfl
            simp at hn
          simp [List.takeWhile_cons, hy, hne]
      simp [List.takeWhile_cons, hi, hl]
    · have hm' : i ∈ l := by simpa [Ne.symm hx] using hm
      have hDx : D x = true := by
        cases l with
        | nil => cases hm'
        | cons y l' =>
          have hall : ∀ (l : List Nat) (x : Nat), chain ops (x :: l) = true → ∀ z ∈ l, ∀ D, Down ops D → D z = true → D x = true := by
            intro l
            induction l with
            | nil => intro _ _ z hz; cases hz
            | cons y l ih2 =>
              intro x hc z hz D hD hDz
              simp only [chain, Bool.and_eq_true] at hc
              rcases List.mem_cons.1 hz with rfl | hz
              · exact anc_sound hc.1 hD hDz
              · exact anc_sound hc.1 hD (ih2 y hc.2 z hz D hD hDz)
          have h1 := hall (y :: l') x hc i hm' (fun j => D j || j == i) ?_ (by simp)
          · simpa [hx] using h1
          · intro j oj hj hoj e he hb
            simp only [Bool.or_eq_true, beq_iff_eq] at hj
            rcases hj with hj | rfl
            · simp [hD j oj hj hoj e he hb]
            · simp [hready oj hoj e he hb]
      have hc' : chain ops l = true := by
        cases l with
        | nil => rfl
        | cons y l' => simp only [chain, Bool.and_eq_true] at hc; exact hc.2
      have := ih hc' hm' (by simp at hn; exact hn.2)
      simp [List.takeWhile_cons, hDx, this]

/-- A REGION THAT DRAWS ITS ORDER; E: its writing operations, in their order; Ws: the worlds -/
theorem wp_region_phases {P : Program} {ops : Array Oper} {id : Nat} {a : Act} {w : World} {Q : Exit → Act → World → Prop} (E : List Nat) (Ws : Nat → World) (hm : P.follows .mixedOrders = true) (hc : linCheck ops = true)
    (hE : (chain ops E && E.all (fun i => decide (i < ops.size)) && decide E.Nodup) = true) (hW : Ws 0 = w.drew) (h : LinP P ops E Ws (fun a => Q .normal a (Ws E.length)) 0 ops.toList a) : (Code.region id ops true).wp P Q a w := by
  simp only [Bool.and_eq_true, List.all_eq_true, decide_eq_true_eq] at hE
  obtain ⟨⟨hch, hlt⟩, hn⟩ := hE
  refine wp_region_lin (fun D w' => w' = Ws (phase E D)) hm hc ?_ ?_
  · have : phase E (fun _ => false) = 0 := by unfold phase; cases E <;> simp [List.takeWhile_cons]
    rw [this, hW]
  · have key : ∀ (l : List Oper) (i : Nat) (a : Act), (∀ k o, l[k]? = some o → ops[i + k]? = some o) → i + l.length = ops.size →
        LinP P ops E Ws (fun a => Q .normal a (Ws E.length)) i l a → Lin P ops (fun D w' => w' = Ws (phase E D)) (fun a w => Q .normal a w) i l a := by
      intro l
      induction l with
      | nil =>
        intro i a _ hsz h w hw
        have e : phase E (fun j => decide (j < i)) = E.length := by
          have hall : ∀ (L : List Nat), (∀ x ∈ L, x < i) → (L.takeWhile fun j => decide (j < i)) = L := by
            intro L
            induction L with
            | nil => intro _; rfl
            | cons x L ih =>
              intro hx
              have h1 := hx x (by simp)
              simp [List.takeWhile_cons, h1, ih (fun y hy => hx y (by simp [hy]))]
          unfold phase
          rw [hall E (fun x hx => by have := hlt x hx; simp at hsz; omega)]
        rw [hw, e]
        exact h
      | cons o rest ih =>
        intro i a hget hsz h
        obtain ⟨v, hv, hrest⟩ := h
        refine ⟨v, ?_, ih (i + 1) _ (fun k o' hk => by
          have := hget (k + 1) o' (by simpa using hk)
          rw [show i + 1 + k = i + (k + 1) by omega]; exact this) (by simp at hsz ⊢; omega) hrest⟩
        intro D w hw hDi hdeps hdown
        subst hw
        have hoi : ops[i]? = some o := by simpa using hget 0 o rfl
        have h1 : lo ops E i ≤ phase E D := by
          refine takeWhile_length_mono E (fun x _ hx => ?_)
          -- what i waits for is done
          have hD' : Down ops (fun j => D j || j == i) := by
            intro j oj hj hoj e he hb
            simp only [Bool.or_eq_true, beq_iff_eq] at hj
            rcases hj with hj | rfl
            · simp [hdown j oj hj hoj e he hb]
            · have : oj = o := Option.some.inj (hoj.symm.trans hoi)
              subst this
              simp [hdeps e he hb]
          have h2 := anc_sound hx hD' (by simp)
          simp only [Bool.or_eq_true, beq_iff_eq] at h2
          rcases h2 with h2 | rfl
          · exact h2
          · exact absurd hx (by
              intro hself
              have hlin := linOk_of_check hc
              exact anc_self_false hlin hself)
        have h2 : phase E D ≤ hi ops E i := by
          refine takeWhile_length_mono E (fun x _ hx => ?_)
          simp only [Bool.and_eq_true, Bool.not_eq_true', bne_iff_ne, ne_eq]
          refine ⟨?_, ?_⟩
          · cases hax : anc ops i x with
            | false => rfl
            | true => have := anc_sound hax hdown hx; rw [hDi] at this; cases this
          · rintro rfl; rw [hDi] at hx; cases hx
        have h3 := hv (phase E D) h1 h2
        have e : phase E (fun j => D j || j == i) = if E.contains i then phase E D + 1 else phase E D := by
          by_cases hm' : i ∈ E
          · rw [if_pos (by simpa using hm')]
            exact phase_event hch hdown hDi hm' (fun o' ho' e he hb => by
              have : o' = o := Option.some.inj (ho'.symm.trans hoi)
              subst this
              exact hdeps e he hb) hn
          · rw [if_neg (by simpa using hm')]
            unfold phase
            congr 1
            have hcg : ∀ (L : List Nat), i ∉ L → (L.takeWhile fun j => D j || j == i) = L.takeWhile D := by
              intro L
              induction L with
              | nil => intro _; rfl
              | cons x L ih =>
                intro hx
                have hxi : (x == i) = false := by rw [beq_eq_false_iff_ne]; rintro rfl; simp at hx
                simp only [List.takeWhile_cons, hxi, Bool.or_false]
                rw [ih (by simp at hx; exact hx.2)]
            exact hcg E hm'
        show RunsTo P ops o a (Ws (phase E D)) v (fun w' => w' = Ws (phase E (fun j => D j || j == i)))
        rw [e]
        exact h3
    exact key ops.toList 0 a (by simp) (by simp) h
end Go.Proofs.Ytclingkhdmhhoaa
