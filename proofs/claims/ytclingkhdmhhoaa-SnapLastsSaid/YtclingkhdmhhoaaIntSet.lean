/- Plain laws: a set of numbers kept as a map of truths that the call itself makes. No condition. -/
import Derived.Test.YtclingkhdmhhoaaEqArr
namespace Go.Proofs.Ytclingkhdmhhoaa
open Go.RowKit
set_option linter.unusedSimpArgs false

/-- a map whose keys are the numbers of S, each with true -/
def IntSet (o : Obj) (S : List Int) : Prop :=
  ∃ es clock, o = .map es clock ∧ (∀ e ∈ es.toList, ∃ n : Int, e.key = .int .i64 n ∧ e.val = .bool true ∧ n ∈ S) ∧ ∀ n ∈ S, ∃ e ∈ es.toList, e.key = .int .i64 n

theorem IntSet.empty : IntSet (.map #[] 0) [] := ⟨#[], 0, rfl, by simp, by simp⟩

theorem findNow_int {kk : IntKind} {n : Int} : ∀ (es : List MapEntry) (i : Nat), (∀ e ∈ es, ∃ m : Int, e.key = .int .i64 m ∧ e.val = .bool true) →
    (∃ j e, Instr.findNow (.int kk) (.int .i64 n) es i = some (some (i + j, .bool true)) ∧ es[j]? = some e ∧ e.key = .int .i64 n) ∨
    (Instr.findNow (.int kk) (.int .i64 n) es i = some none ∧ ∀ e ∈ es, e.key ≠ .int .i64 n)
  | [], i, _ => .inr ⟨rfl, by simp⟩
  | e :: es, i, h => by
    obtain ⟨m, hk, hv⟩ := h e (by simp)
    by_cases hmn : n = m
    · subst hmn
      refine .inl ⟨0, e, ?_, rfl, hk⟩
      simp [Instr.findNow, hk, hv, Instr.sameNow]
    · rcases findNow_int (kk := kk) (n := n) es (i + 1) (fun x hx => h x (by simp [hx])) with ⟨j, e', h1, h2, h3⟩ | ⟨h1, h2⟩
      · refine .inl ⟨j + 1, e', ?_, by simpa using h2, h3⟩
        have hb : (n == m) = false := by simpa using hmn
        simp only [Instr.findNow, hk, Instr.sameNow, if_true, hb]
        rw [h1]; congr 3; omega
      · refine .inr ⟨?_, ?_⟩
        · have hb : (n == m) = false := by simpa using hmn
          simp only [Instr.findNow, hk, Instr.sameNow, if_true, hb]
          exact h1
        · intro x hx
          rcases List.mem_cons.1 hx with rfl | hx
          · rw [hk]; simp only [ne_eq, Value.int.injEq, true_and]; exact fun e => hmn e.symm
          · exact h2 x hx

section
variable {P : Program} {w : World} {t kt et m : Nat} {kk : IntKind} {o : Obj} {S : List Int} {n : Int}

theorem checkKey_int (hk : P.underlying kt = some (.int kk)) (b : Bool) (N : Nat) : (Instr.checkKey b (N + 1) kt (.int .i64 n)).run P w = .ok () w := by
  simp [Instr.checkKey, run_underlying hk]

theorem run_lookup_set (ht : P.underlying t = some (.map kt et)) (hk : P.underlying kt = some (.int kk)) (hz : (P.info? et).bind (·.zero) = some (.bool false)) (hm : w.heap[m]? = some o) (ho : IntSet o S) :
    (Instr.lookup t (.map (some m)) (.int .i64 n) false).run P w = .ok (.bool (decide (n ∈ S))) w := by
  obtain ⟨es, clock, rfl, h1, h2⟩ := ho
  have hzv : (zeroValue et).run P w = .ok (.bool false) w := by
    cases hq : P.info? et with
    | none => simp [hq] at hz
    | some i =>
      have : i.zero = some (.bool false) := by simpa [hq] using hz
      simp [zeroValue, typeInfo, hq, this]
  have hg : (getObj m).run P w = .ok (.map es clock) w := by simp [getObj, Sem.run, hm]
  rcases findNow_int (kk := kk) (n := n) es.toList 0 (fun e he => let ⟨a, b, c, _⟩ := h1 e he; ⟨a, b, c⟩) with ⟨j, e, hf, hj, hke⟩ | ⟨hf, hno⟩
  · have hin : n ∈ S := by
      obtain ⟨a, b, c, d⟩ := h1 e (List.mem_of_getElem? hj)
      rw [hke] at b
      simp only [Value.int.injEq, true_and] at b
      rw [b]; exact d
    simp [Instr.lookup, run_underlying ht, hg, checkKey_int hk, Instr.findKey, run_underlying hk, hf, hin]
  · have hin : ¬ n ∈ S := by
      intro hin
      obtain ⟨e, he, hk⟩ := h2 n hin
      exact hno e he hk
    simp [Instr.lookup, run_underlying ht, hg, checkKey_int hk, Instr.findKey, run_underlying hk, hf, hin, hzv]

theorem run_setObj {o o' : Obj} (hm : w.heap[m]? = some o) (ho : ∀ c e f, o ≠ .cells c e f) : (setObj m o').run P w = .ok () (setBlk w m o') := by
  simp only [setObj, Sem.run, hm]
  cases o <;> first | exact absurd rfl (ho _ _ _) | rfl

theorem run_update_set (ht : P.underlying t = some (.map kt et)) (hk : P.underlying kt = some (.int kk)) (hm : w.heap[m]? = some o) (ho : IntSet o S) :
    ∃ o', (Instr.mapUpdate t (.map (some m)) (.int .i64 n) (.bool true)).run P w = .ok () (setBlk w m o') ∧ IntSet o' (n :: S) := by
  obtain ⟨es, clock, rfl, h1, h2⟩ := ho
  have hg : (getObj m).run P w = .ok (.map es clock) w := by simp [getObj, Sem.run, hm]
  rcases findNow_int (kk := kk) (n := n) es.toList 0 (fun e he => let ⟨a, b, c, _⟩ := h1 e he; ⟨a, b, c⟩) with ⟨j, e, hf, hj, hke⟩ | ⟨hf, hno⟩
  · have hj' : es[j]? = some e := by simpa using hj
    refine ⟨.map (es.modify j fun e => { e with key := .int .i64 n, val := .bool true }) clock, ?_, es.modify j fun e => { e with key := .int .i64 n, val := .bool true }, clock, rfl, ?_, ?_⟩
    · have hs : (setObj m (.map (es.modify j fun e => { e with key := .int .i64 n, val := .bool true }) clock)).run P w = .ok () (setBlk w m (.map (es.modify j fun e => { e with key := .int .i64 n, val := .bool true }) clock)) :=
        run_setObj hm (by simp)
      simp [Instr.mapUpdate, run_underlying ht, hg, checkKey_int hk, Instr.findKey, run_underlying hk, hf, hj', hke, Instr.keyThatStays, Instr.sameBits, hs]
    · intro x hx
      rw [Array.toList_modify] at hx
      obtain ⟨i, hi⟩ := List.getElem?_of_mem hx
      rw [List.getElem?_modify] at hi
      by_cases hij : j = i
      · subst hij
        have : es.toList[j]? = some e := hj
        simp only [if_true, this, Option.map_eq_map, Option.map_some, Option.some.injEq] at hi
        subst hi
        exact ⟨n, rfl, rfl, by simp⟩
      · simp only [hij, if_false] at hi
        have hi' : es.toList[i]? = some x := by simpa using hi
        obtain ⟨a, b, c, d⟩ := h1 x (List.mem_of_getElem? hi')
        exact ⟨a, b, c, by simp [d]⟩
    · intro q hq
      by_cases hqn : q = n
      · subst hqn
        refine ⟨{ e with key := .int .i64 q, val := .bool true }, ?_, rfl⟩
        rw [Array.toList_modify]
        refine List.mem_of_getElem? (i := j) ?_
        rw [List.getElem?_modify]
        simp [hj']
      · obtain ⟨x, hx, hxk⟩ := h2 q (by simpa [hqn] using hq)
        obtain ⟨i, hi⟩ := List.getElem?_of_mem hx
        have hij : j ≠ i := by
          rintro rfl
          rw [hj] at hi
          obtain rfl := Option.some.inj hi
          rw [hke] at hxk
          simp only [Value.int.injEq, true_and] at hxk
          exact hqn hxk.symm
        refine ⟨x, ?_, hxk⟩
        rw [Array.toList_modify]
        refine List.mem_of_getElem? (i := i) ?_
        rw [List.getElem?_modify]
        simpa [hij] using hi
  · refine ⟨.map (es.push { key := .int .i64 n, val := .bool true, born := clock }) (clock + 1), ?_, es.push { key := .int .i64 n, val := .bool true, born := clock }, clock + 1, rfl, ?_, ?_⟩
    · have hs : (setObj m (.map (es.push { key := .int .i64 n, val := .bool true, born := clock }) (clock + 1))).run P w = .ok () (setBlk w m (.map (es.push { key := .int .i64 n, val := .bool true, born := clock }) (clock + 1))) :=
        run_setObj hm (by simp)
      simp [Instr.mapUpdate, run_underlying ht, hg, checkKey_int hk, Instr.findKey, run_underlying hk, hf, hs]
    · intro x hx
      rw [Array.toList_push, List.mem_append] at hx
      rcases hx with hx | hx
      · obtain ⟨a, b, c, d⟩ := h1 x hx
        exact ⟨a, b, c, by simp [d]⟩
      · simp only [List.mem_singleton] at hx
        subst hx
        exact ⟨n, rfl, rfl, by simp⟩
    · intro q hq
      rw [Array.toList_push]
      rcases List.mem_cons.1 hq with rfl | hq
      · exact ⟨{ key := .int .i64 q, val := .bool true, born := clock }, by simp, rfl⟩
      · obtain ⟨x, hx, hxk⟩ := h2 q hq
        exact ⟨x, by simp [hx], hxk⟩
end
section
variable {P : Program} {w0 w : World} {D : List Nat} {H : List (Nat × Obj)} {a : Act} {K : Act → World → Prop} {Q : Exit → Act → World → Prop}
  {dst : Option Tmp} {ty : TypeId} {pos : String} {aft : Array Edge} {g : Option (Nat × Bool)}
theorem St.mm (hs : St w0 D H w) {t : TypeId}
    (h : ∀ b w', w0.heap.size ≤ b → St w0 D ((b, .map #[] 0) :: H) w' → K (a.put dst (.map (some b))) w') : Oper.wp P ⟨dst, .makeMap t none, ty, pos, aft, g⟩ a w K Q := by
  refine wp_of_run (v := .map (some w.heap.size)) (w' := w.alloc (.map #[] 0)) ?_ (h _ _ hs.size (hs.alloc _))
  simp [execOp, Instr.makeMap]
theorem St.mu (hs : St w0 D H w) (k : Nat) {t kt et m : Nat} {kk : IntKind} {o : Obj} {S : List Int} {n : Int} (hk : H[k]? = some (m, o)) (ho : IntSet o S) (ht : P.underlying t = some (.map kt et)) (hkt : P.underlying kt = some (.int kk))
    {x y z : Operand} (hx : a.eval x = .map (some m)) (hy : a.eval y = .int .i64 n) (hz : a.eval z = .bool true)
    (h : ∀ o' w', IntSet o' (n :: S) → St w0 D (H.set k (m, o')) w' → K (a.put dst undef) w') : Oper.wp P ⟨dst, .mapUpdate t x y z, ty, pos, aft, g⟩ a w K Q := by
  obtain ⟨o', hr, ho'⟩ := run_update_set (P := P) (n := n) ht hkt (hs.at k hk) ho
  refine wp_of_skip (w' := setBlk w m o') ?_ (h o' _ ho' (hs.setAt hk _))
  simp [execOp, hx, hy, hz, hr]
end
section
variable {P : Program} {ops : Array Oper} {rest : List Oper} {w : World} {a : Act} {Q : Exit → Act → World → Prop} {dst : Option Tmp} {t ty : TypeId} {pos : String} {aft : Array Edge} {g : Option (Nat × Bool)} {x y z : Operand}
theorem gd_mm (h : wpList P ops Q (⟨dst, .makeMap ty none, t, pos, aft, g⟩ :: rest) a w) : wpList P ops Q (⟨dst, .makeMap ty none, t, pos, aft, g⟩ :: rest) a w := h
theorem gd_mu (h : wpList P ops Q (⟨dst, .mapUpdate ty x y z, t, pos, aft, g⟩ :: rest) a w) : wpList P ops Q (⟨dst, .mapUpdate ty x y z, t, pos, aft, g⟩ :: rest) a w := h
end
theorem ex_lookup {P : Program} {ρ : Operand → Value} {w : World} {dst : Option Tmp} {ty : TypeId} {pos : String} {aft : Array Edge} {g : Option (Nat × Bool)} {t kt et m : Nat} {kk : IntKind} {o : Obj} {S : List Int} {n : Int} {x y : Operand}
    (hx : ρ x = .map (some m)) (hy : ρ y = .int .i64 n) (ht : P.underlying t = some (.map kt et)) (hk : P.underlying kt = some (.int kk)) (hz : (P.info? et).bind (·.zero) = some (.bool false)) (hm : w.heap[m]? = some o) (ho : IntSet o S) :
    (execOp ρ ⟨dst, .lookup t x y false, ty, pos, aft, g⟩).run P w = .ok (.value (.bool (decide (n ∈ S)))) w := by
  simp [execOp, hx, hy, run_lookup_set ht hk hz hm ho]
end Go.Proofs.Ytclingkhdmhhoaa
