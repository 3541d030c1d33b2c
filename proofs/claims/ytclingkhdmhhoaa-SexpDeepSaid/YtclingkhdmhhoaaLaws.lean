/- Plain laws of the walk over the symbolic heap: loads, stores, new blocks, appends, copies. No condition. -/
import Derived.Test.YtclingkhdmhhoaaMem
namespace Go.Proofs.Ytclingkhdmhhoaa
open Go.RowKit

/-- a type of one cell -/
def Sc (P : Program) (t : TypeId) : Prop :=
  (∃ d, P.underlying t = some d ∧ (match d with | .struct _ | .array _ _ => false | _ => true) = true) ∧ (P.info? t).map (·.size) = some 1
/-- a struct or an array of n cells -/
def Ag (P : Program) (t n : Nat) : Prop :=
  (∃ d, P.underlying t = some d ∧ (match d with | .struct _ | .array _ _ => true | _ => false) = true) ∧ (P.info? t).map (·.size) = some n
/-- the cells of a type's zero value -/
def Zc (P : Program) (t : TypeId) (l : List Value) : Prop := (P.info? t).map (fun i => i.zero.map (fun z => z.cells.toList)) = some (some l)

/-- l, with vs from off on -/
def splice (l : List Value) (off : Nat) (vs : List Value) : List Value := l.take off ++ vs ++ l.drop (off + vs.length)
theorem length_splice {l : List Value} {off : Nat} {vs : List Value} (h : off + vs.length ≤ l.length) : (splice l off vs).length = l.length := by
  simp [splice]; omega
theorem splice_one {l : List Value} {off : Nat} {v : Value} (h : off < l.length) : splice l off [v] = l.set off v := by
  rw [List.set_eq_take_append_cons_drop, if_pos h]; simp [splice]
/-- n of them from off on -/
def cut (l : List Value) (off n : Nat) : List Value := (l.drop off).take n

section
variable {P : Program} {w : World}

theorem row_cell {b : Nat} {T : TypeId} {l : List Value} (h : w.heap[b]? = some (row T l)) (off : Nat) : w.cell? ⟨b, off, none⟩ = l[off]? := by
  simp [World.cell?, h, row]
theorem row_frozen {b : Nat} {T : TypeId} {l : List Value} (h : w.heap[b]? = some (row T l)) (off : Nat) : w.frozen? ⟨b, off, none⟩ = false := by
  simp [World.frozen?, h, row]

theorem run_ld_s {t b off : Nat} {v : Value} (ht : Sc P t) (hc : w.cell? ⟨b, off, none⟩ = some v) : (loadVar t ⟨b, off, none⟩).run P w = .ok v w := by
  obtain ⟨⟨d, hd, hk⟩, _⟩ := ht
  have hi : (isAgg t).run P w = .ok false w := by
    unfold isAgg
    rw [Sem.run_bind, run_underlying hd w]
    cases d <;> simp_all
  simp [loadVar, Sem.run_bind, hi, hc]

theorem run_ld_a {t n b off : Nat} {vs : List Value} (ht : Ag P t n) (hn : vs.length = n) (hc : ∀ j v, vs[j]? = some v → w.cell? ⟨b, off + j, none⟩ = some v) :
    (loadVar t ⟨b, off, none⟩).run P w = .ok (.agg vs.toArray) w := by
  obtain ⟨⟨d, hd, hk⟩, hz⟩ := ht
  have hi : (isAgg t).run P w = .ok true w := by
    unfold isAgg
    rw [Sem.run_bind, run_underlying hd w]
    cases d <;> simp_all
  have hl := run_loadCells_list (P := P) w ⟨b, off, none⟩ vs (fun j v hv => by
    have hadd : (⟨b, off, none⟩ : Addr).add j = ⟨b, off + j, none⟩ := by unfold Addr.add; split <;> simp_all
    rw [hadd]; exact hc j v hv)
  rw [hn] at hl
  cases hq : P.info? t with
  | none => simp [hq] at hz
  | some i =>
    have hs : i.size = n := by simpa [hq] using hz
    simp [loadVar, Sem.run_bind, hi, sizeOf, typeInfo, hq, hs, hl]

theorem run_ld_row {t n b off : Nat} {T : TypeId} {l : List Value} (ht : Ag P t n) (hb : w.heap[b]? = some (row T l)) (hn : off + n ≤ l.length) :
    (loadVar t ⟨b, off, none⟩).run P w = .ok (.agg (cut l off n).toArray) w := by
  refine run_ld_a ht (by simp [cut]; omega) ?_
  intro j v hv
  rw [row_cell hb]
  simp only [cut, List.getElem?_take, List.getElem?_drop] at hv
  split at hv
  · exact hv
  · cases hv

theorem run_st_cells {b off : Nat} {T : TypeId} {l vs : List Value} (hb : w.heap[b]? = some (row T l)) (hn : off + vs.length ≤ l.length) (h1 : ∀ v ∈ vs, v.oneCell' = true) :
    (storeCells ⟨b, off, none⟩ vs).run P w = .ok () (setBlk w b (row T (splice l off vs))) := by
  have h := run_storeCells_at P b off T vs 0 l.toArray w hb (by simpa using hn) h1
  rw [h, setRow_setBlk hb]
  simp [row, splice]

theorem run_st_s {t b off : Nat} {v : Value} {T : TypeId} {l : List Value} (ht : Sc P t) (hb : w.heap[b]? = some (row T l)) (hn : off < l.length) (h1 : v.oneCell' = true) :
    (storeVar t ⟨b, off, none⟩ v).run P w = .ok () (setBlk w b (row T (l.set off v))) := by
  obtain ⟨_, hz⟩ := ht
  have hcs : v.cells = #[v] := by cases v <;> first | rfl | simp [Value.oneCell'] at h1
  have hst := run_st_cells (P := P) (off := off) (vs := [v]) hb (by simp only [List.length_singleton]; omega) (by simpa using h1)
  rw [splice_one hn] at hst
  cases hq : P.info? t with
  | none => simp [hq] at hz
  | some i =>
    have hs : i.size = 1 := by simpa [hq] using hz
    simp [storeVar, Sem.run_bind, sizeOf, typeInfo, hq, hs, hcs, hst]

theorem run_st_a {t n b off : Nat} {vs : List Value} {T : TypeId} {l : List Value} (ht : Ag P t n) (hv : vs.length = n) (hb : w.heap[b]? = some (row T l)) (hn : off + n ≤ l.length) (h1 : ∀ v ∈ vs, v.oneCell' = true) :
    (storeVar t ⟨b, off, none⟩ (.agg vs.toArray)).run P w = .ok () (setBlk w b (row T (splice l off vs))) := by
  obtain ⟨_, hz⟩ := ht
  have hst := run_st_cells (P := P) (off := off) (vs := vs) hb (by omega) h1
  cases hq : P.info? t with
  | none => simp [hq] at hz
  | some i =>
    have hs : i.size = n := by simpa [hq] using hz
    simp [storeVar, Sem.run_bind, sizeOf, typeInfo, hq, hs, Value.cells, hst, hv]

theorem run_al {t : Nat} {l : List Value} (ht : Zc P t l) : (Instr.alloc t true (.tuple #[])).run P w = .ok (.pointer (some ⟨w.heap.size, 0, none⟩)) (w.alloc (row t l)) := by
  unfold Zc at ht
  cases hq : P.info? t with
  | none => simp [hq] at ht
  | some i =>
    cases hz : i.zero with
    | none => simp [hq, hz] at ht
    | some z =>
      have hl : z.cells.toList = l := by simpa [hq, hz] using ht
      simp [Instr.alloc, zeroValue, typeInfo, hq, hz, newVar, newRow, row, ← hl]

theorem run_bx {t : Nat} {v : Value} : (Instr.box t v).run P w = .ok (.pointer (some ⟨w.heap.size, 0, none⟩)) (w.alloc (row t v.cells.toList)) := by
  simp [Instr.box, newVar, newRow, row]
end

/-! ### the walk's steps -/
section
variable {P : Program} {w0 w : World} {D : List Nat} {H : List (Nat × Obj)} {a : Act} {K : Act → World → Prop} {Q : Exit → Act → World → Prop}
  {dst : Option Tmp} {t : TypeId} {pos : String} {aft : Array Edge} {g : Option (Nat × Bool)}

theorem wp_of_run {o : Oper} {v : Value} {w' : World} (h : (execOp a.eval o).run P w = .ok (.value v) w') (hk : K (a.put o.dst v) w') : o.wp P a w K Q := by
  unfold Oper.wp; rw [h]; exact hk
theorem wp_of_skip {o : Oper} {w' : World} (h : (execOp a.eval o).run P w = .ok .skip w') (hk : K (a.put o.dst undef) w') : o.wp P a w K Q := by
  unfold Oper.wp; rw [h]; exact hk

theorem ex_ld {ρ : Operand → Value} {ty : TypeId} {x : Operand} {ad : Addr} {v : Value} (hx : ρ x = .pointer (some ad)) (h : (loadVar ty ad).run P w = .ok v w) :
    (execOp ρ ⟨dst, .load ty x, t, pos, aft, g⟩).run P w = .ok (.value v) w := by
  simp [execOp, hx, Instr.loadAt, Instr.sureAddr, h]
theorem ex_st {ρ : Operand → Value} {ty : TypeId} {x y : Operand} {ad : Addr} {v : Value} {w' : World} (hx : ρ x = .pointer (some ad)) (hy : ρ y = v) (h : (storeVar ty ad v).run P w = .ok () w') :
    (execOp ρ ⟨dst, .store ty x y, t, pos, aft, g⟩).run P w = .ok .skip w' := by
  simp [execOp, hx, hy, Instr.storeAt, Instr.sureAddr, h]

/-- a load of one cell of a block that is known -/
theorem St.ld (hs : St w0 D H w) (k : Nat) {b off : Nat} {T : TypeId} {l : List Value} (hk : H[k]? = some (b, row T l)) {ty : TypeId} {x : Operand} (hx : a.eval x = .pointer (some ⟨b, off, none⟩))
    (hty : Sc P ty) {v : Value} (hv : l[off]? = some v) (h : K (a.put dst v) w) : Oper.wp P ⟨dst, .load ty x, t, pos, aft, g⟩ a w K Q :=
  wp_of_run (ex_ld hx (run_ld_s hty ((row_cell (hs.has.known _ (List.mem_of_getElem? hk)) off).trans hv))) h
/-- a load of a struct or an array out of a block that is known -/
theorem St.lda (hs : St w0 D H w) (k : Nat) {b off : Nat} {T : TypeId} {l : List Value} (hk : H[k]? = some (b, row T l)) {ty : TypeId} {x : Operand} (hx : a.eval x = .pointer (some ⟨b, off, none⟩))
    {n : Nat} (hty : Ag P ty n) (hn : off + n ≤ l.length) {vs : List Value} (hv : cut l off n = vs) (h : K (a.put dst (.agg vs.toArray)) w) : Oper.wp P ⟨dst, .load ty x, t, pos, aft, g⟩ a w K Q := by
  subst hv
  exact wp_of_run (ex_ld hx (run_ld_row hty (hs.has.known _ (List.mem_of_getElem? hk)) hn)) h
/-- a store of one cell -/
theorem St.st (hs : St w0 D H w) (k : Nat) {b off : Nat} {T : TypeId} {l : List Value} (hk : H[k]? = some (b, row T l)) {ty : TypeId} {x y : Operand} (hx : a.eval x = .pointer (some ⟨b, off, none⟩))
    (hty : Sc P ty) {v : Value} (hv : a.eval y = v) (h1 : v.oneCell' = true) (hn : off < l.length)
    (h : ∀ w', St w0 D (H.set k (b, row T (l.set off v))) w' → K (a.put dst undef) w') : Oper.wp P ⟨dst, .store ty x y, t, pos, aft, g⟩ a w K Q :=
  wp_of_skip (ex_st hx hv (run_st_s hty (hs.has.known _ (List.mem_of_getElem? hk)) hn h1)) (h _ (hs.setAt hk _))
/-- a store of a struct or an array -/
theorem St.sta (hs : St w0 D H w) (k : Nat) {b off : Nat} {T : TypeId} {l : List Value} (hk : H[k]? = some (b, row T l)) {ty : TypeId} {x y : Operand} (hx : a.eval x = .pointer (some ⟨b, off, none⟩))
    {n : Nat} (hty : Ag P ty n) {vs : List Value} (hv : a.eval y = .agg vs.toArray) (hl : vs.length = n) (h1 : ∀ v ∈ vs, v.oneCell' = true) (hn : off + n ≤ l.length) {l' : List Value} (he : splice l off vs = l')
    (h : ∀ w', St w0 D (H.set k (b, row T l')) w' → K (a.put dst undef) w') : Oper.wp P ⟨dst, .store ty x y, t, pos, aft, g⟩ a w K Q := by
  subst he
  exact wp_of_skip (ex_st hx hv (run_st_a hty hl (hs.has.known _ (List.mem_of_getElem? hk)) hn h1)) (h _ (hs.setAt hk _))
/-- a load of one cell, by the block -/
theorem wp_ld {b off : Nat} {T : TypeId} {l : List Value} (hb : w.heap[b]? = some (row T l)) {ty : TypeId} {x : Operand} (hx : a.eval x = .pointer (some ⟨b, off, none⟩))
    (hty : Sc P ty) {v : Value} (hv : l[off]? = some v) (h : K (a.put dst v) w) : Oper.wp P ⟨dst, .load ty x, t, pos, aft, g⟩ a w K Q :=
  wp_of_run (ex_ld hx (run_ld_s hty ((row_cell hb off).trans hv))) h
theorem wp_ldc {b off : Nat} {v : Value} (hc : w.cell? ⟨b, off, none⟩ = some v) {ty : TypeId} {x : Operand} (hx : a.eval x = .pointer (some ⟨b, off, none⟩))
    (hty : Sc P ty) (h : K (a.put dst v) w) : Oper.wp P ⟨dst, .load ty x, t, pos, aft, g⟩ a w K Q :=
  wp_of_run (ex_ld hx (run_ld_s hty hc)) h
theorem wp_lda {b off n : Nat} {vs : List Value} {ty : TypeId} {x : Operand} (hx : a.eval x = .pointer (some ⟨b, off, none⟩))
    (hty : Ag P ty n) (hn : vs.length = n) (hc : ∀ j v, vs[j]? = some v → w.cell? ⟨b, off + j, none⟩ = some v) (h : K (a.put dst (.agg vs.toArray)) w) : Oper.wp P ⟨dst, .load ty x, t, pos, aft, g⟩ a w K Q :=
  wp_of_run (ex_ld hx (run_ld_a hty hn hc)) h
/-- a store of one cell, A ahead -/
theorem St.stm {A B : List (Nat × Obj)} {b off : Nat} {T : TypeId} {l : List Value} (hs : St w0 D (A ++ (b, row T l) :: B) w) {ty : TypeId} {x y : Operand} (hx : a.eval x = .pointer (some ⟨b, off, none⟩))
    (hty : Sc P ty) {v : Value} (hv : a.eval y = v) (h1 : v.oneCell' = true) (hn : off < l.length)
    (h : ∀ w', St w0 D (A ++ (b, row T (l.set off v)) :: B) w' → K (a.put dst undef) w') : Oper.wp P ⟨dst, .store ty x y, t, pos, aft, g⟩ a w K Q :=
  wp_of_skip (ex_st hx hv (run_st_s hty (hs.has.known (b, row T l) (by simp)) hn h1)) (h _ (hs.set _))
theorem St.stam {A B : List (Nat × Obj)} {b off : Nat} {T : TypeId} {l : List Value} (hs : St w0 D (A ++ (b, row T l) :: B) w) {ty : TypeId} {x y : Operand} (hx : a.eval x = .pointer (some ⟨b, off, none⟩))
    {n : Nat} (hty : Ag P ty n) {vs : List Value} (hv : a.eval y = .agg vs.toArray) (hl : vs.length = n) (h1 : ∀ v ∈ vs, v.oneCell' = true) (hn : off + n ≤ l.length)
    (h : ∀ w', St w0 D (A ++ (b, row T (splice l off vs)) :: B) w' → K (a.put dst undef) w') : Oper.wp P ⟨dst, .store ty x y, t, pos, aft, g⟩ a w K Q :=
  wp_of_skip (ex_st hx hv (run_st_a hty hl (hs.has.known (b, row T l) (by simp)) hn h1)) (h _ (hs.set _))
/-- a new variable -/
theorem St.al (hs : St w0 D H w) {ty : TypeId} {l : List Value} (hty : Zc P ty l)
    (h : ∀ b w', w0.heap.size ≤ b → St w0 D ((b, row ty l) :: H) w' → K (a.put dst (.pointer (some ⟨b, 0, none⟩))) w') : Oper.wp P ⟨dst, .alloc ty, t, pos, aft, g⟩ a w K Q := by
  refine wp_of_run (v := .pointer (some ⟨w.heap.size, 0, none⟩)) (w' := w.alloc (row ty l)) ?_ (h _ _ hs.size (hs.alloc _))
  simp [execOp, run_al hty]
/-- a new variable with a value -/
theorem St.bx (hs : St w0 D H w) {ty : TypeId} {x : Operand} {v : Value} (hx : a.eval x = v) {l : List Value} (hl : v.cells.toList = l)
    (h : ∀ b w', w0.heap.size ≤ b → St w0 D ((b, row ty l) :: H) w' → K (a.put dst (.pointer (some ⟨b, 0, none⟩))) w') : Oper.wp P ⟨dst, .box ty x, t, pos, aft, g⟩ a w K Q := by
  subst hl
  refine wp_of_run (v := .pointer (some ⟨w.heap.size, 0, none⟩)) (w' := w.alloc (row ty v.cells.toList)) ?_ (h _ _ hs.size (hs.alloc _))
  simp [execOp, hx, run_bx]
theorem St.bx1 (hs : St w0 D H w) {ty : TypeId} {x : Operand} {v : Value} (hx : a.eval x = v) (h1 : v.oneCell' = true)
    (h : ∀ b w', w0.heap.size ≤ b → St w0 D ((b, row ty [v]) :: H) w' → K (a.put dst (.pointer (some ⟨b, 0, none⟩))) w') : Oper.wp P ⟨dst, .box ty x, t, pos, aft, g⟩ a w K Q :=
  hs.bx hx (by cases v <;> first | rfl | simp [Value.oneCell'] at h1) h
theorem St.bxa (hs : St w0 D H w) {ty : TypeId} {x : Operand} {l : List Value} (hx : a.eval x = .agg l.toArray)
    (h : ∀ b w', w0.heap.size ≤ b → St w0 D ((b, row ty l) :: H) w' → K (a.put dst (.pointer (some ⟨b, 0, none⟩))) w') : Oper.wp P ⟨dst, .box ty x, t, pos, aft, g⟩ a w K Q :=
  hs.bx hx rfl h
end
end Go.Proofs.Ytclingkhdmhhoaa
