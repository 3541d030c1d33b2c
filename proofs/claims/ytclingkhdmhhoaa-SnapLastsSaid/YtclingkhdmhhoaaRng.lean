/- A walk inside a round of a range over a function, by the laws of the plain walk. No condition. -/
import Derived.RangeFuncNested
import Derived.RangeFuncBound
import Derived.RangeFuncCalls
import Derived.RangeFuncLeaves
import Derived.Shelf.Abstract
import Derived.Shelf.RegionOpen
import Derived.OwnWalkIn
import Derived.TacticsInMore
import Derived.LoopNIn
import Derived.LoopIn
import Derived.Test.YtclingkhdmhhoaaDkLaw
namespace Go.Proofs.Ytclingkhdmhhoaa
open Go.RowKit Go.Shelf
set_option linter.unusedSimpArgs false

/-- a fence that bars nothing -/
structure Wd (F : Fence) : Prop where
  fn : ∀ f, F.fn f
  depth : F.depth = none
  calls : ∀ {n : Nat} {P : Program} {f : FuncId} {args : Array Value} {w : World} {R : Ending → World → Prop}, Calls P f args w R → CallsIn F n P f args w R
  rows : ∀ {n : Nat} {P : Program} {r : String} {args : Array Value} {w : World} {R : Value → World → Prop}, Rows P r args w R → RowsIn F n P r args w R
theorem rows_wide {n : Nat} {P : Program} {r : String} {args : Array Value} {w : World} {R : Value → World → Prop} (h : Rows P r args w R) : RowsIn Fence.wide n P r args w R :=
  fun c cs _ => let ⟨v, w', r, s⟩ := h c cs; ⟨v, w', r, stepsIn_wide.2 s⟩
theorem wd_wide : Wd Fence.wide := ⟨fun _ => trivial, rfl, fun h => callsIn_wide.2 h, fun h => rows_wide h⟩
theorem wd_round (l : Nat) : Wd (Fence.wide.inRound l) := ⟨fun _ => trivial, rfl, fun h => CallsIn.inRound l (callsIn_wide.2 h), fun h => rows_wide h⟩

section
variable {F : Fence} {n : Nat} {P : Program} {ops : Array Oper} {Q : Exit → Act → World → Prop} {K : Act → World → Prop} {a : Act} {w : World} {rest : List Oper} {o : Oper}

theorem oper_in (hw : Wd F) (hd : ∀ c, o.op ≠ .defer c) (h : o.wp P a w K Q) : o.wpIn F n P a w K Q := by
  refine ⟨fun f _ => hw.fn f, ?_⟩
  rw [Oper.semAt_plain F _ _ hd]
  unfold Oper.wp at h
  generalize (execOp a.eval o).run P w = r at h
  have hz : ∀ m, F.depth.isSome = true → 1 ≤ m := fun m h => by rw [hw.depth] at h; cases h
  cases r with
  | ok v w' =>
    cases v with
    | value v => exact h
    | skip => exact h
    | defer d => exact h
    | enter f args => exact ⟨hz _, hw.calls h⟩
    | row r args => exact ⟨hz _, hw.rows h⟩
    | _ => exact h.elim
  | halt st w' => cases st <;> first | exact h | exact h.elim
theorem wli_of (hw : Wd F) (hg : o.guard = none) (hd : ∀ c, o.op ≠ .defer c) (h : o.wp P a w (wpListIn F n P ops Q rest) Q) : wpListIn F n P ops Q (o :: rest) a w :=
  wpListIn_plain hg fun _ hK => oper_in hw hd (Oper.wp_mono hK h)
theorem wli_on (hw : Wd F) (hg : Region.wanted o (yielded ops a.tmps) = true) (hd : ∀ c, o.op ≠ .defer c) (h : o.wp P a w (wpListIn F n P ops Q rest) Q) : wpListIn F n P ops Q (o :: rest) a w :=
  wpListIn_step fun _ hK => by rw [if_pos hg]; exact oper_in hw hd (Oper.wp_mono hK h)

end
section
variable {F : Fence} {n : Nat} {P : Program} {ops : Array Oper} {Q : Exit → Act → World → Prop} {a : Act} {w : World} {rest : List Oper}
variable {dst : Option Tmp} {t ty : TypeId} {pos : String} {aft : Array Edge} {g : Option (Nat × Bool)} {x y : Operand}
theorem gdi_ld (h : wpListIn F n P ops Q (⟨dst, .load ty x, t, pos, aft, g⟩ :: rest) a w) : wpListIn F n P ops Q (⟨dst, .load ty x, t, pos, aft, g⟩ :: rest) a w := h
theorem gdi_st (h : wpListIn F n P ops Q (⟨dst, .store ty x y, t, pos, aft, g⟩ :: rest) a w) : wpListIn F n P ops Q (⟨dst, .store ty x y, t, pos, aft, g⟩ :: rest) a w := h
theorem gdi_bx (h : wpListIn F n P ops Q (⟨dst, .box ty x, t, pos, aft, g⟩ :: rest) a w) : wpListIn F n P ops Q (⟨dst, .box ty x, t, pos, aft, g⟩ :: rest) a w := h
theorem gdi_al (h : wpListIn F n P ops Q (⟨dst, .alloc ty, t, pos, aft, g⟩ :: rest) a w) : wpListIn F n P ops Q (⟨dst, .alloc ty, t, pos, aft, g⟩ :: rest) a w := h
theorem gdi_ia (h : wpListIn F n P ops Q (⟨dst, .indexAddr ty x y, t, pos, aft, g⟩ :: rest) a w) : wpListIn F n P ops Q (⟨dst, .indexAddr ty x y, t, pos, aft, g⟩ :: rest) a w := h
end

/-- all blocks that are known hold cells -/
def AllCells (H : List (Nat × Obj)) : Prop := ∀ p ∈ H, p.2.isCells = true
theorem allCells_nil : AllCells [] := by simp [AllCells]
theorem allCells_row {b : Nat} {T : TypeId} {l : List Value} {H : List (Nat × Obj)} (h : AllCells H) : AllCells ((b, row T l) :: H) := by
  intro p hp
  rcases List.mem_cons.1 hp with rfl | hp
  · rfl
  · exact h p hp
theorem allCells_app {A B : List (Nat × Obj)} (ha : AllCells A) (hb : AllCells B) : AllCells (A ++ B) := fun p hp => (List.mem_append.1 hp).elim (ha p) (hb p)

theorem St.grown {w0 W W' : World} {D : List Nat} {H : List (Nat × Obj)} {r : Option Nat} {B : Nat} (hs : St w0 D H W) (hc : AllCells H) (hB : w0.heap.size ≤ B) (hg : W.grownBy W' r)
    (hr : ∀ k, r = some k → B ≤ k ∧ ∃ o : Obj, W.heap[k]? = some o ∧ o.isCells = false) : St w0 D H W' := by
  refine ⟨⟨fun p hp => ?_, hs.has.nodup⟩, hg.os.trans hs.os, hg.tape.trans hs.tape, hg.output.trans hs.output, Nat.le_trans hs.size hg.size, hs.own, fun b hb hd => ?_⟩
  · have h1 := hs.has.known p hp
    refine (hg.block _ (hs.has.lt hp) (fun e => ?_)).trans h1
    obtain ⟨_, o, ho, hcl⟩ := hr _ e.symm
    rw [h1] at ho; cases ho
    rw [hc p hp] at hcl; cases hcl
  · refine (hg.block b (Nat.lt_of_lt_of_le hb hs.size) (fun e => ?_)).trans (hs.frame b hb hd)
    have := (hr _ e.symm).1
    omega
theorem St.ownFrom {β : Type} {w0 : World} {D : List Nat} {H : List (Nat × Obj)} {B : Nat} (hc : AllCells H) (hB : w0.heap.size ≤ B) : OwnFrom B (fun (_ : β) W => St w0 D H W) :=
  fun _ _ _ _ hs hg hr => hs.grown hc hB hg hr
theorem St.keepsFrom {W W' : World} {H H' : List (Nat × Obj)} (hs : St W (keys H) H' W') (hk : Has W H) (hc : AllCells H) (B : Nat) : KeepsFrom B W W' :=
  ⟨hs.size, fun k o _ ho hn => by
    refine (hs.frame k (Array.getElem?_eq_some_iff.1 ho).1 (fun hm => ?_)).trans ho
    obtain ⟨p, hp, rfl⟩ := List.mem_map.1 hm
    have h1 := hk.known p hp
    rw [ho] at h1; cases h1
    rw [hc p hp] at hn; cases hn⟩
theorem St.also {w0 W : World} {D : List Nat} {H : List (Nat × Obj)} (hs : St w0 D H W) (hc : AllCells H) {b : Nat} {o : Obj} (hk : W.heap[b]? = some o) (ho : o.isCells = false) (hB : w0.heap.size ≤ b) : St w0 D ((b, o) :: H) W := by
  refine ⟨⟨?_, ?_⟩, hs.os, hs.tape, hs.output, hs.size, ?_, hs.frame⟩
  · intro p hp
    rcases List.mem_cons.1 hp with rfl | hp
    · exact hk
    · exact hs.has.known p hp
  · simp only [List.map_cons, List.nodup_cons]
    refine ⟨fun hm => ?_, hs.has.nodup⟩
    obtain ⟨p, hp, e⟩ := List.mem_map.1 hm
    have h1 := hs.has.known p hp
    rw [e, hk] at h1; cases h1
    rw [hc p hp] at ho; cases ho
  · intro p hp
    rcases List.mem_cons.1 hp with rfl | hp
    · exact .inr hB
    · exact hs.own p hp
/-- the block of deferred calls is shut -/
theorem St.shut {w0 W : World} {D : List Nat} {H : List (Nat × Obj)} {b : Nat} {o : Obj} (hs : St w0 D ((b, o) :: H) W) (o' : Obj) : St w0 D H (W.putObj b o') :=
  St.drop (A := [_]) (St.set (A := []) hs o')
end Go.Proofs.Ytclingkhdmhhoaa
