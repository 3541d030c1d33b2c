/- Plain lemmas on rows made of parts of one length. No condition. -/
import Derived.Test.YtclingkhdmhhoaaSteps
namespace Go.Proofs.Ytclingkhdmhhoaa
open Go.RowKit

section
variable {k : Nat} {ls : List (List Value)}
theorem flat_len : ∀ {ls : List (List Value)}, (∀ x ∈ ls, x.length = k) → ls.flatten.length = ls.length * k
  | [], _ => by simp
  | x :: ls, h => by
    rw [List.flatten_cons, List.length_append, flat_len (fun y hy => h y (by simp [hy])), h x (by simp), List.length_cons, Nat.add_mul]; omega
theorem flat_take : ∀ {ls : List (List Value)} (i : Nat), (∀ x ∈ ls, x.length = k) → ls.flatten.take (i * k) = (ls.take i).flatten
  | [], i, _ => by simp
  | x :: ls, 0, h => by simp
  | x :: ls, i + 1, h => by
    have hx := h x (by simp)
    rw [List.flatten_cons, List.take_succ_cons, List.flatten_cons, ← flat_take i (fun y hy => h y (by simp [hy])), List.take_append, List.take_of_length_le (by rw [hx, Nat.add_mul]; omega)]
    congr 2
    rw [hx, Nat.add_mul]; omega
theorem flat_drop : ∀ {ls : List (List Value)} (i : Nat), (∀ x ∈ ls, x.length = k) → ls.flatten.drop (i * k) = (ls.drop i).flatten
  | [], i, _ => by simp
  | x :: ls, 0, h => by simp
  | x :: ls, i + 1, h => by
    have hx := h x (by simp)
    rw [List.flatten_cons, List.drop_succ_cons, ← flat_drop i (fun y hy => h y (by simp [hy])), List.drop_append, List.drop_of_length_le (by rw [hx, Nat.add_mul]; omega), List.nil_append]
    congr 1
    rw [hx, Nat.add_mul]; omega
theorem flat_cut_part (h : ∀ x ∈ ls, x.length = k) {i : Nat} {x : List Value} (hi : ls[i]? = some x) {o n : Nat} (hn : o + n ≤ k) {junk : List Value} : cut (ls.flatten ++ junk) (i * k + o) n = cut x o n := by
  have hlt : i < ls.length := (List.getElem?_eq_some_iff.1 hi).1
  have hx : ls[i] = x := (List.getElem?_eq_some_iff.1 hi).2
  have hxk : x.length = k := h x (List.mem_of_getElem? hi)
  have hik : i * k + k ≤ ls.length * k := by rw [← Nat.succ_mul]; exact Nat.mul_le_mul_right _ hlt
  unfold cut
  rw [List.drop_append_of_le_length (by rw [flat_len h]; omega), ← List.drop_drop, flat_drop i h, List.drop_eq_getElem_cons hlt, hx, List.flatten_cons,
    List.drop_append_of_le_length (l₁ := x) (by omega), List.append_assoc, List.take_append_of_le_length (by simp; omega)]
theorem flat_cut (h : ∀ x ∈ ls, x.length = k) {i : Nat} {x : List Value} (hi : ls[i]? = some x) {junk : List Value} : cut (ls.flatten ++ junk) (i * k) k = x := by
  have := flat_cut_part h hi (o := 0) (n := k) (by omega) (junk := junk)
  rw [Nat.add_zero] at this
  rw [this]
  have hxk : x.length = k := h x (List.mem_of_getElem? hi)
  simp only [cut, List.drop_zero]
  exact List.take_of_length_le (by omega)
theorem flat_splice_part (h : ∀ x ∈ ls, x.length = k) {i : Nat} {x : List Value} (hi : ls[i]? = some x) {o : Nat} {vs : List Value} (hn : o + vs.length ≤ k) :
    splice ls.flatten (i * k + o) vs = (ls.set i (splice x o vs)).flatten := by
  have hlt : i < ls.length := (List.getElem?_eq_some_iff.1 hi).1
  have hx : ls[i] = x := (List.getElem?_eq_some_iff.1 hi).2
  have hxk : x.length = k := h x (List.mem_of_getElem? hi)
  have e : ls = ls.take i ++ x :: ls.drop (i + 1) := by rw [← hx, ← List.drop_eq_getElem_cons hlt, List.take_append_drop]
  have e2 : ls.set i (splice x o vs) = ls.take i ++ splice x o vs :: ls.drop (i + 1) := by rw [List.set_eq_take_append_cons_drop, if_pos hlt]
  have ht : ls.flatten = (ls.take i).flatten ++ (x ++ (ls.drop (i + 1)).flatten) := by
    have := congrArg List.flatten e
    simpa using this
  have hl : (ls.take i).flatten.length = i * k := by
    rw [flat_len (fun y hy => h y (List.mem_of_mem_take hy)), List.length_take, Nat.min_eq_left (by omega)]
  rw [e2, ht]
  simp only [List.flatten_append, List.flatten_cons]
  unfold splice
  rw [show i * k + o = (ls.take i).flatten.length + o by rw [hl], List.take_length_add_append, Nat.add_assoc, List.drop_length_add_append]
  rw [List.take_append_of_le_length (by omega), List.drop_append_of_le_length (by omega)]
  simp
theorem splice_all {x vs : List Value} (h : vs.length = x.length) : splice x 0 vs = vs := by
  unfold splice; simp [h]
theorem flat_splice (h : ∀ x ∈ ls, x.length = k) {i : Nat} (hi : i < ls.length) {vs : List Value} (hn : vs.length = k) : splice ls.flatten (i * k) vs = (ls.set i vs).flatten := by
  have := flat_splice_part h (i := i) (x := ls[i]) (by simp [hi]) (o := 0) (vs := vs) (by omega)
  rw [Nat.add_zero] at this
  rw [this, splice_all (by rw [hn, h _ (List.getElem_mem hi)])]
theorem splice_app {l junk vs : List Value} {off : Nat} (h : off + vs.length ≤ l.length) : splice (l ++ junk) off vs = splice l off vs ++ junk := by
  unfold splice
  rw [List.take_append_of_le_length (by omega), List.drop_append_of_le_length (by omega)]
  simp
theorem flat_get (h : ∀ x ∈ ls, x.length = k) {i : Nat} {x : List Value} (hi : ls[i]? = some x) {o : Nat} (ho : o < k) {junk : List Value} : (ls.flatten ++ junk)[i * k + o]? = x[o]? := by
  have h1 := flat_cut_part h hi (o := o) (n := 1) (by omega) (junk := junk)
  have hxk : x.length = k := h x (List.mem_of_getElem? hi)
  have h2 := congrArg (fun l : List Value => l[0]?) h1
  simpa [cut, List.getElem?_take] using h2
end
end Go.Proofs.Ytclingkhdmhhoaa
