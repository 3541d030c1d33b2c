/- Plain laws: the steps of a region that draws its order, and what single operations give. No condition. -/
import Derived.Test.YtclingkhdmhhoaaPhase
namespace Go.Proofs.Ytclingkhdmhhoaa
open Go.RowKit
set_option linter.unusedSimpArgs false

/-- a slot's value -/
theorem ev {l : List Value} {df : List Deferred} {t : Nat} {v : Value} (h : l[t]? = some v) : Act.eval ⟨l.toArray, df⟩ (.tmp t) = v := by
  simp [Act.eval, h]
theorem evc {a : Act} {v : Value} : a.eval (.const v) = v := rfl
/-- a slot is written -/
theorem pu {l l' : List Value} {df : List Deferred} {dst : Option Tmp} {k : Nat} {v : Value} (hd : dst = some k) (h : l.set k v = l') : (⟨l.toArray, df⟩ : Act).put dst v = ⟨l'.toArray, df⟩ := by
  subst hd; subst h; simp [Act.put]
theorem pu0 {a : Act} {dst : Option Tmp} {v : Value} (hd : dst = none) : a.put dst v = a := by subst hd; rfl

section
variable {P : Program} {ops : Array Oper} {E : List Nat} {Ws : Nat → World} {R : Act → Prop} {i : Nat} {o : Oper} {rest : List Oper} {a a' : Act} {v : Value}

theorem RunsTo.val {w w' : World} {R' : World → Prop} (hw : Region.wanted o (yielded ops a.tmps) = true) (h : (execOp a.eval o).run P w = .ok (.value v) w') (hr : R' w') : RunsTo P ops o a w v R' := by
  unfold RunsTo; rw [if_pos hw, h]; exact ⟨rfl, hr⟩
theorem RunsTo.skp {w w' : World} {R' : World → Prop} (hw : Region.wanted o (yielded ops a.tmps) = true) (h : (execOp a.eval o).run P w = .ok .skip w') (hr : R' w') : RunsTo P ops o a w undef R' := by
  unfold RunsTo; rw [if_pos hw, h]; exact ⟨rfl, hr⟩

theorem LinP.done (h : R a) : LinP P ops E Ws R i [] a := h
theorem LinP.pure (hw : Region.wanted o (yielded ops a.tmps) = true) (hE : E.contains i = false) (h : ∀ w, (execOp a.eval o).run P w = .ok (.value v) w)
    (ha : a.put o.dst v = a') (hr : LinP P ops E Ws R (i + 1) rest a') : LinP P ops E Ws R i (o :: rest) a :=
  ⟨v, fun p _ _ => RunsTo.val hw (h _) (by rw [hE]; rfl), ha ▸ hr⟩
theorem LinP.read (m M : Nat) (hw : Region.wanted o (yielded ops a.tmps) = true) (hE : E.contains i = false) (hlo : Nat.ble m (lo ops E i) = true) (hhi : Nat.ble (hi ops E i) M = true)
    (h : ∀ p, m ≤ p → p ≤ M → (execOp a.eval o).run P (Ws p) = .ok (.value v) (Ws p)) (ha : a.put o.dst v = a') (hr : LinP P ops E Ws R (i + 1) rest a') : LinP P ops E Ws R i (o :: rest) a :=
  ⟨v, fun p h1 h2 => RunsTo.val hw (h p (Nat.le_trans (Nat.le_of_ble_eq_true hlo) h1) (Nat.le_trans h2 (Nat.le_of_ble_eq_true hhi))) (by rw [hE]; rfl), ha ▸ hr⟩
theorem LinP.rd (q : Nat) (hw : Region.wanted o (yielded ops a.tmps) = true) (hE : E.contains i = false) (hlo : Nat.ble q (lo ops E i) = true) (hhi : Nat.ble (hi ops E i) q = true)
    (h : (execOp a.eval o).run P (Ws q) = .ok (.value v) (Ws q)) (ha : a.put o.dst v = a') (hr : LinP P ops E Ws R (i + 1) rest a') : LinP P ops E Ws R i (o :: rest) a :=
  ⟨v, fun p h1 h2 => by
    have e1 := Nat.le_of_ble_eq_true hlo
    have e2 := Nat.le_of_ble_eq_true hhi
    obtain rfl : p = q := by omega
    exact RunsTo.val hw h (by rw [hE]; rfl), ha ▸ hr⟩
theorem LinP.write (p : Nat) (hw : Region.wanted o (yielded ops a.tmps) = true) (hE : E.contains i = true) (hlo : lo ops E i = p) (hhi : hi ops E i = p)
    (h : (execOp a.eval o).run P (Ws p) = .ok (.value v) (Ws (p + 1))) (ha : a.put o.dst v = a') (hr : LinP P ops E Ws R (i + 1) rest a') : LinP P ops E Ws R i (o :: rest) a :=
  ⟨v, fun q h1 h2 => by
    obtain rfl : q = p := by omega
    exact RunsTo.val hw h (by rw [hE]; rfl), ha ▸ hr⟩
theorem LinP.store (p : Nat) (hw : Region.wanted o (yielded ops a.tmps) = true) (hE : E.contains i = true) (hlo : lo ops E i = p) (hhi : hi ops E i = p)
    (h : (execOp a.eval o).run P (Ws p) = .ok .skip (Ws (p + 1))) (ha : a.put o.dst undef = a') (hr : LinP P ops E Ws R (i + 1) rest a') : LinP P ops E Ws R i (o :: rest) a :=
  ⟨undef, fun q h1 h2 => by
    obtain rfl : q = p := by omega
    exact RunsTo.skp hw h (by rw [hE]; rfl), ha ▸ hr⟩
theorem LinP.off (hw : Region.wanted o (yielded ops a.tmps) = false) (hE : E.contains i = false) (ha : a.put o.dst undef = a') (hr : LinP P ops E Ws R (i + 1) rest a') : LinP P ops E Ws R i (o :: rest) a :=
  ⟨undef, fun p _ _ => by unfold RunsTo; rw [if_neg (by simp [hw])]; exact ⟨rfl, by rw [hE]; rfl⟩, ha ▸ hr⟩
end

section
variable {P : Program} {ρ : Operand → Value} {w w' : World} {dst : Option Tmp} {t : TypeId} {pos : String} {aft : Array Edge} {g : Option (Nat × Bool)}

theorem ex_move {x : Operand} {v : Value} (hx : ρ x = v) (w : World) : (execOp ρ ⟨dst, .move x, t, pos, aft, g⟩).run P w = .ok (.value v) w := by simp [execOp, hx]
theorem ex_assign {x : Operand} {v : Value} (hx : ρ x = v) (w : World) : (execOp ρ ⟨dst, .assign x, t, pos, aft, g⟩).run P w = .ok (.value v) w := by simp [execOp, hx]
theorem ex_nilCheck {x : Operand} {ad : Addr} (hx : ρ x = .pointer (some ad)) (w : World) : (execOp ρ ⟨dst, .nilCheck x, t, pos, aft, g⟩).run P w = .ok (.value (.pointer (some ad))) w := by simp [execOp, hx]
theorem ex_fieldAddr {x : Operand} {s k off b o : Nat} (hf : Fa P s k off) (hx : ρ x = .pointer (some ⟨b, o, none⟩)) (w : World) :
    (execOp ρ ⟨dst, .fieldAddr s x k, t, pos, aft, g⟩).run P w = .ok (.value (.pointer (some ⟨b, o + off, none⟩))) w := by simp [execOp, hx, hf b o w]
theorem ex_pick {c x y : Operand} {b : Bool} {v : Value} (hc : ρ c = .bool b) (hv : (if b = true then ρ x else ρ y) = v) (w : World) : (execOp ρ ⟨dst, .pick c x y, t, pos, aft, g⟩).run P w = .ok (.value v) w := by
  subst hv; simp [execOp, hc, asBool]
theorem ex_ld_s {ty b off : Nat} {x : Operand} {v : Value} (hx : ρ x = .pointer (some ⟨b, off, none⟩)) (ht : Sc P ty) (hc : w.cell? ⟨b, off, none⟩ = some v) :
    (execOp ρ ⟨dst, .load ty x, t, pos, aft, g⟩).run P w = .ok (.value v) w := ex_ld hx (run_ld_s ht hc)
theorem ex_ld_row {ty b off n : Nat} {x : Operand} {T : TypeId} {l : List Value} (hx : ρ x = .pointer (some ⟨b, off, none⟩)) (ht : Ag P ty n) (hb : w.heap[b]? = some (row T l)) (hn : off + n ≤ l.length) {vs : List Value} (he : cut l off n = vs) :
    (execOp ρ ⟨dst, .load ty x, t, pos, aft, g⟩).run P w = .ok (.value (.agg vs.toArray)) w := by subst he; exact ex_ld hx (run_ld_row ht hb hn)
theorem ex_st_s {ty b off : Nat} {x y : Operand} {v : Value} {T : TypeId} {l : List Value} (hx : ρ x = .pointer (some ⟨b, off, none⟩)) (hy : ρ y = v) (ht : Sc P ty) (hb : w.heap[b]? = some (row T l)) (hn : off < l.length) (h1 : v.oneCell' = true) {l' : List Value} (he : l.set off v = l') :
    (execOp ρ ⟨dst, .store ty x y, t, pos, aft, g⟩).run P w = .ok .skip (setBlk w b (row T l')) := by subst he; exact ex_st hx hy (run_st_s ht hb hn h1)
theorem ex_st_a {ty b off n : Nat} {x y : Operand} {vs : List Value} {T : TypeId} {l : List Value} (hx : ρ x = .pointer (some ⟨b, off, none⟩)) (hy : ρ y = .agg vs.toArray) (ht : Ag P ty n) (hv : vs.length = n) (hb : w.heap[b]? = some (row T l))
    (hn : off + n ≤ l.length) (h1 : ∀ v ∈ vs, v.oneCell' = true) {l' : List Value} (he : splice l off vs = l') : (execOp ρ ⟨dst, .store ty x y, t, pos, aft, g⟩).run P w = .ok .skip (setBlk w b (row T l')) := by subst he; exact ex_st hx hy (run_st_a ht hv hb hn h1)
theorem ex_build {ty : TypeId} {ps : Array (Nat × Operand)} {v : Value} {vs : List (Nat × Value)} (hv : ps.toList.map (fun x => (x.1, ρ x.2)) = vs) (h : (Instr.build ty vs.toArray).run P w = .ok v w) :
    (execOp ρ ⟨dst, .build ty ps, t, pos, aft, g⟩).run P w = .ok (.value v) w := by
  have e : ps.map (fun x => (x.1, ρ x.2)) = vs.toArray := by rw [← hv]; apply Array.ext'; simp
  simp [execOp, e, h]
theorem ex_buildSlice {ty : TypeId} {n : Nat} {ps : Array (Nat × Operand)} {v : Value} {vs : List (Nat × Value)} (hv : ps.toList.map (fun x => (x.1, ρ x.2)) = vs) (h : (Instr.buildSlice ty n vs.toArray).run P w = .ok v w') :
    (execOp ρ ⟨dst, .buildSlice ty n ps, t, pos, aft, g⟩).run P w = .ok (.value v) w' := by
  have e : ps.map (fun x => (x.1, ρ x.2)) = vs.toArray := by rw [← hv]; apply Array.ext'; simp
  simp [execOp, e, h]

theorem add_none (b o n : Nat) : (⟨b, o, none⟩ : Addr).add n = ⟨b, o + n, none⟩ := by unfold Addr.add; split <;> simp_all
theorem run_sizeOf {e sz : Nat} (h : (P.info? e).map (·.size) = some sz) (w : World) : (sizeOf e).run P w = .ok sz w := by
  cases hq : P.info? e with
  | none => simp [hq] at h
  | some i => have hs : i.size = sz := by simpa [hq] using h
              simp [sizeOf, typeInfo, hq, hs]
theorem ex_indexAddr {ty e sz b o n c : Nat} {x ix : Operand} {k : IntKind} {i : Nat} (hs : Sty P ty e sz) (hx : ρ x = .slice (some ⟨b, o, none⟩) n c) (hi : ρ ix = .int k i) (hlt : i < n) (w : World) :
    (execOp ρ ⟨dst, .indexAddr ty x ix, t, pos, aft, g⟩).run P w = .ok (.value (.pointer (some ⟨b, o + i * sz, none⟩))) w := by
  simp [execOp, hx, hi, Instr.indexAt, asIntOf, run_underlying hs.und, run_sizeOf hs.siz, hlt, add_none]
theorem ex_indexAddr_arr {ty e sz b o n : Nat} {x ix : Operand} {k : IntKind} {i : Nat} (hs : Ar P ty n e sz) (hx : ρ x = .pointer (some ⟨b, o, none⟩)) (hi : ρ ix = .int k i) (hlt : i < n) (w : World) :
    (execOp ρ ⟨dst, .indexAddr ty x ix, t, pos, aft, g⟩).run P w = .ok (.value (.pointer (some ⟨b, o + i * sz, none⟩))) w := by
  simp [execOp, hx, hi, Instr.indexAt, Instr.sureAddr, asIntOf, run_underlying hs.und, run_sizeOf hs.siz, hlt, add_none]
theorem ex_sliceArr {ty e sz b o n h : Nat} {x y : Operand} {k : IntKind} (hs : Ar P ty n e sz) (hx : ρ x = .pointer (some ⟨b, o, none⟩)) (hy : ρ y = .int k h) (hle : h ≤ n) (w : World) :
    (execOp ρ ⟨dst, .slice ty x none (some y) none, t, pos, aft, g⟩).run P w = .ok (.value (.slice (some ⟨b, o, none⟩) h n)) w := by
  simp [execOp, hx, hy, Instr.sliceAt, Instr.sureAddr, Instr.sliceBounds, Instr.sliceBound, asIntOf, run_underlying hs.und, run_sizeOf hs.siz, hle, add_none]
theorem ex_copy {dT sT elem : Nat} {x y : Operand} {gb o dLen dCap sLen sCap : Nat} {ad : Addr} {T : TypeId} {l cs : List Value} (hs : Sty P dT elem 1) (hx : ρ x = .slice (some ⟨gb, o, none⟩) dLen dCap) (hy : ρ y = .slice (some ad) sLen sCap)
    (hg : w.heap[gb]? = some (row T l)) (hn : cs.length = Nat.min sLen dLen) (hsrc : ∀ j v, cs[j]? = some v → w.cell? (ad.add j) = some v) (hfit : o + cs.length ≤ l.length) (h1 : ∀ v ∈ cs, v.oneCell' = true) {l' : List Value} (he : splice l o cs = l') :
    (execOp ρ ⟨dst, .call { callee := .builtin .copy, args := #[x, y], argTypes := #[dT, sT] }, t, pos, aft, g⟩).run P w = .ok (.value (.int .i64 cs.length)) (setBlk w gb (row T l')) := by
  subst he
  have h := run_copy_row P w dT sT t elem gb o dLen dCap ad sLen sCap l.toArray T cs hs.und hs.siz hg hn hsrc (by simpa using hfit) h1
  rw [setRow_setBlk hg] at h
  simp [execOp, resolve, invoke, builtin, hx, hy, h, goInt, row, splice]

/-- parts laid into a row, cell by cell -/
theorem fold_splice : ∀ (vs : List Value) (off k : Nat) (cs : Array Value), off + k + vs.length ≤ cs.size →
    (vs.zipIdx k).foldl (fun (cs : Array Value) (x : Value × Nat) => cs.setIfInBounds (off + x.2) x.1) cs = (splice cs.toList (off + k) vs).toArray
  | [], off, k, cs, _ => by simp [splice]
  | v :: vs, off, k, cs, h => by
    rw [List.zipIdx_cons, List.foldl_cons, fold_splice vs off (k + 1) _ (by simp at h ⊢; omega)]
    congr 1
    have hlt : off + k < cs.toList.length := by simp at h ⊢; omega
    unfold splice
    apply List.ext_getElem?
    intro j
    simp only [Array.toList_setIfInBounds, List.getElem?_append, List.length_take, List.length_set, List.length_append, List.length_cons, List.getElem?_take, List.getElem?_drop, List.getElem?_set, List.getElem?_cons]
    simp only [List.length_cons] at h
    have e1 : min (off + (k + 1)) cs.toList.length = off + k + 1 := by simp at h ⊢; omega
    have e2 : min (off + k) cs.toList.length = off + k := by omega
    rw [e1, e2]
    by_cases h1 : j < off + k
    · have a1 : j < off + k + 1 + vs.length := by omega
      have a2 : j < off + k + 1 := by omega
      have a3 : j < off + (k + 1) := by omega
      have a4 : ¬ off + k = j := by omega
      have a5 : j < off + k + (vs.length + 1) := by omega
      simp [h1, a1, a2, a3, a4, a5]
    · by_cases h2 : j = off + k
      · subst h2
        have hlt' : off + k < cs.size := by simpa using hlt
        simp [hlt', Nat.add_assoc]
      · have a1 : ¬ j < off + k + 1 := by omega
        by_cases h3 : j < off + k + 1 + vs.length
        · have a2 : j < off + k + (vs.length + 1) := by omega
          have a3 : ¬ j - (off + k) = 0 := by omega
          have a4 : j - (off + k) - 1 = j - (off + k + 1) := by omega
          simp [h1, a1, h3, a2, a3, a4]
        · have a2 : ¬ j < off + k + (vs.length + 1) := by omega
          have a5 : ¬ off + k = off + (k + 1) + vs.length + (j - (off + k + 1 + vs.length)) := by omega
          have a6 : off + (k + 1) + vs.length + (j - (off + k + 1 + vs.length)) = off + k + (vs.length + 1) + (j - (off + k + (vs.length + 1))) := by omega
          simp only [h1, a1, h3, a2, a5, if_false]
          rw [a6]
end
end Go.Proofs.Ytclingkhdmhhoaa
