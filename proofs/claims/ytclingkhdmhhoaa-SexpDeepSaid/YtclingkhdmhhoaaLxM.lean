/- A text in memory: a slice of bytes that is only read; parts of it, as strings. No condition. -/
import Derived.Test.YtclingkhdmhhoaaLxA
import Derived.Laws.BytesArg
namespace Go.Proofs.Ytclingkhdmhhoaa
open Go.RowKit
set_option linter.unusedSimpArgs false

/-- the cells at A are these bytes; they lie in an old block that isn't one of D -/
def Cl (w : World) (D : List Nat) (A : Option Addr) (l : List UInt8) : Prop :=
  l = [] ∨ ∃ b o, A = some ⟨b, o, none⟩ ∧ b < w.heap.size ∧ b ∉ D ∧ ∀ i x, l[i]? = some x → w.cell? ⟨b, o + i, none⟩ = some (u8 x)
/-- v reads as the bytes l -/
def Txt (w : World) (D : List Nat) (v : Value) (l : List UInt8) : Prop := ∃ A c, v = .slice A l.length c ∧ l.length ≤ c ∧ c ≤ maxLen ∧ Cl w D A l
/-- a string -/
def str (l : List UInt8) : Value := .string ⟨l.toArray⟩

section
variable {w0 w : World} {D : List Nat} {H : List (Nat × Obj)} {A : Option Addr} {v : Value} {l : List UInt8}
theorem Cl.via (h : Cl w0 D A l) (hs : St w0 D H w) : Cl w (keys H) A l := by
  rcases h with h | ⟨b, o, rfl, hb, hd, hc⟩
  · exact .inl h
  · refine .inr ⟨b, o, rfl, Nat.lt_of_lt_of_le hb hs.size, ?_, fun i x hx => ?_⟩
    · intro hm
      obtain ⟨p, hp, e⟩ := List.mem_map.1 hm
      rcases hs.own p hp with h1 | h1
      · rw [e] at h1; exact hd h1
      · omega
    · rw [World.cell?_of_block (hs.frame b hb hd)]; exact hc i x hx
theorem Txt.via (h : Txt w0 D v l) (hs : St w0 D H w) : Txt w (keys H) v l := by
  obtain ⟨A, c, h1, h2, h3, h4⟩ := h
  exact ⟨A, c, h1, h2, h3, h4.via hs⟩
theorem Txt.start (h : Txt w0 D v l) {D' : List Nat} (hd : ∀ b ∈ D', b ∈ D) : Txt w0 D' v l := by
  obtain ⟨A, c, h1, h2, h3, h4⟩ := h
  refine ⟨A, c, h1, h2, h3, ?_⟩
  rcases h4 with h | ⟨b, o, rfl, hb, hn, hc⟩
  · exact .inl h
  · exact .inr ⟨b, o, rfl, hb, fun hm => hn (hd b hm), hc⟩
/-- the byte at i -/
theorem Cl.at (h : Cl w0 D A l) (hs : St w0 D H w) {i : Nat} {x : UInt8} (hi : l[i]? = some x) : ∃ b o, A = some ⟨b, o, none⟩ ∧ w.cell? ⟨b, o + i, none⟩ = some (u8 x) := by
  rcases h with h | ⟨b, o, rfl, hb, hd, hc⟩
  · subst h; simp at hi
  · exact ⟨b, o, rfl, by rw [World.cell?_of_block (hs.frame b hb hd)]; exact hc i x hi⟩
theorem Cl.sub (h : Cl w D A l) (lo hi c : Nat) (hlo : lo ≤ hi) (hhi : hi ≤ l.length) (hc : hi ≤ c) : Cl w D (if c = lo then A else A.map (·.add (lo * 1))) ((l.drop lo).take (hi - lo)) := by
  by_cases h0 : lo = hi
  · exact .inl (by subst h0; simp)
  · rcases h with h | ⟨b, o, rfl, hb, hd, hcc⟩
    · subst h; exact .inl (by simp)
    · rw [if_neg (by omega)]
      refine .inr ⟨b, o + lo, by simp [add_none], hb, hd, fun i x hx => ?_⟩
      rw [Nat.add_assoc]
      refine hcc (lo + i) x ?_
      rw [List.getElem?_take] at hx
      split at hx
      · simpa [List.getElem?_drop] using hx
      · cases hx
theorem run_txt_slice (h : Txt w D v l) {lo hi : Nat} (hlo : lo ≤ hi) (hhi : hi ≤ l.length) (k k' : IntKind) :
    ∃ v', (Instr.sliceAt 43 v (some (.int k lo)) (some (.int k' hi)) none).run Try.prog w = .ok v' w ∧ Txt w D v' ((l.drop lo).take (hi - lo)) := by
  obtain ⟨A, c, rfl, h2, h3, h4⟩ := h
  have h5 := h4.sub lo hi c hlo hhi (by omega)
  have e : ((l.drop lo).take (hi - lo)).length = hi - lo := by simp; omega
  refine ⟨.slice (if c = lo then A else A.map (·.add (lo * 1))) (hi - lo) (c - lo), ?_, _, c - lo, by rw [e], by rw [e]; omega, by omega, h5⟩
  have b1 : hi ≤ c := by omega
  simp [Instr.sliceAt, Instr.slice, Instr.sliceBounds, Instr.sliceBound, asIntOf, run_underlying Try.underlying43, run_sizeOf st43.siz, hlo, b1]
theorem run_txt_string (h : Txt w D v l) : (convert 43 9 v).run Try.prog w = .ok (str l) w := by
  obtain ⟨A, c, rfl, h2, h3, h4⟩ := h
  rcases h4 with rfl | ⟨b, o, rfl, hb, hd, hc⟩
  · cases A with
    | none => exact run_convert_bytes_nil (P := Try.prog) w 43 5 Try.underlying43 Try.underlying5 0 c 9 Try.underlying9
    | some ad =>
      rw [run_convert_bytes_string w 43 9 5 _ _ c Try.underlying43 Try.underlying5 Try.underlying9]
      rw [show ([] : List UInt8).length = 0 from rfl, run_bytesToString w ad 0 c [] (by simp [loadCells, loadCellsFrom])]
      rfl
  · rw [run_convert_bytes_arg (P := Try.prog) w 43 5 Try.underlying43 Try.underlying5 b o l.length c (l.map fun x => (x.toNat : Int)) (by simp) (fun i hi => by
      rw [hc i l[i] (by simp [hi])]
      simp [u8, hi]) 9 Try.underlying9]
    congr 1
    unfold str strOfNums
    congr 2
    rw [List.map_map]
    congr 1
    apply List.ext_getElem <;> simp
end

section
variable {P : Program} {ρ : Operand → Value} {w : World} {dst : Option Tmp} {t : TypeId} {pos : String} {aft : Array Edge} {g : Option (Nat × Bool)}
theorem ex_slc {x lo hi : Operand} {v vl vh v' : Value} {ty : TypeId} (hx : ρ x = v) (hl : ρ lo = vl) (hh : ρ hi = vh) (h : (Instr.sliceAt ty v (some vl) (some vh) none).run P w = .ok v' w) :
    (execOp ρ ⟨dst, .slice ty x (some lo) (some hi) none, t, pos, aft, g⟩).run P w = .ok (.value v') w := by
  simp [execOp, hx, hl, hh, h]
theorem ex_cnv {x : Operand} {v v' : Value} {s d : TypeId} (hx : ρ x = v) (h : (convert s d v).run P w = .ok v' w) :
    (execOp ρ ⟨dst, .convert s d x, t, pos, aft, g⟩).run P w = .ok (.value v') w := by
  simp [execOp, hx, h]
end
section
variable {P : Program} {w0 w : World} {D : List Nat} {H : List (Nat × Obj)} {a : Act} {K : Act → World → Prop} {Q : Exit → Act → World → Prop} {t : TypeId} {pos : String} {aft : Array Edge} {g : Option (Nat × Bool)}
theorem put_none (a : Act) (v : Value) : a.put none v = a := rfl
/-- a store of one cell -/
theorem St.st0 (hs : St w0 D H w) (k : Nat) {b off : Nat} {T : TypeId} {l : List Value} (hk : H[k]? = some (b, row T l)) {ty : TypeId} {x y : Operand} (hx : a.eval x = .pointer (some ⟨b, off, none⟩))
    (hty : Sc P ty) {v : Value} (hv : a.eval y = v) (h1 : v.oneCell' = true) (hn : off < l.length)
    (h : ∀ w', St w0 D (H.set k (b, row T (l.set off v))) w' → K a w') : Oper.wp P ⟨none, .store ty x y, t, pos, aft, g⟩ a w K Q :=
  hs.st k hk hx hty hv h1 hn fun w' h' => by rw [put_none]; exact h w' h'
end
section
variable {w0 w : World} {D : List Nat} {H : List (Nat × Obj)}
/-- what a call did that left all old blocks alone -/
theorem St.above {w' : World} (h : St w0 D H w) (hb : Below w.heap.size w w') : St w0 D H w' :=
  ⟨⟨fun p hp => (hb.block _ (h.has.lt hp)).trans (h.has.known p hp), h.has.nodup⟩, hb.os.trans h.os, hb.tape.trans h.tape, hb.output.trans h.output, Nat.le_trans h.size hb.size, h.own,
    fun b h1 h2 => (hb.block b (Nat.lt_of_lt_of_le h1 h.size)).trans (h.frame b h1 h2)⟩
end
end Go.Proofs.Ytclingkhdmhhoaa
