/- Plain laws of the walk over the symbolic heap: make, empty slices. No condition. -/
import Derived.Test.YtclingkhdmhhoaaFlat
import Derived.Deep.QuietTactic
import Derived.BigQuiet
namespace Go.Proofs.Ytclingkhdmhhoaa
open Go.RowKit
set_option linter.unusedSimpArgs false

theorem made_flat {z : Array Value} (n : Nat) (hz : 0 < z.size) : (madeCells z (n * z.size)).toList = (List.replicate n z.toList).flatten := by
  have hk : ∀ x ∈ List.replicate n z.toList, x.length = z.size := by
    intro x hx; rw [List.eq_of_mem_replicate hx]; simp
  apply List.ext_getElem?
  intro i
  by_cases hi : i < n * z.size
  · have hq : i / z.size < n := by rw [Nat.div_lt_iff_lt_mul hz]; exact hi
    have hr : i % z.size < z.size := Nat.mod_lt _ hz
    have h1 := flat_get hk (i := i / z.size) (x := z.toList) (by simp [hq]) (o := i % z.size) hr (junk := [])
    rw [List.append_nil, Nat.mul_comm, Nat.div_add_mod] at h1
    rw [h1]
    have h2 : (madeCells z (n * z.size)).toList[i]? = some z[i % z.size]! := by
      simp [madeCells, hi]
    rw [h2]
    simp [hr]
  · have h1 : (madeCells z (n * z.size)).toList.length = n * z.size := by simp [size_madeCells]
    rw [List.getElem?_eq_none (by omega), List.getElem?_eq_none (by rw [flat_len hk]; simp; omega)]

section
variable {P : Program} {w0 w : World} {D : List Nat} {H : List (Nat × Obj)} {a : Act} {K : Act → World → Prop} {Q : Exit → Act → World → Prop}
  {dst : Option Tmp} {t : TypeId} {pos : String} {aft : Array Edge} {g : Option (Nat × Bool)}

/-- make([]T, n) -/
theorem St.ms (hs : St w0 D H w) {tt e size bytes n : Nat} {zl : List Value} (he : El P tt e size bytes) (hz : Zc P e zl) {x y : Operand} (hx : a.eval x = .int .i64 n) (hy : a.eval y = .int .i64 n) (hn : n ≤ 1073741824) (hb : bytes * n ≤ 281474976710656)
    (h : ∀ b w', w0.heap.size ≤ b → St w0 D ((b, row e (List.replicate n zl).flatten) :: H) w' → K (a.put dst (.slice (some ⟨b, 0, none⟩) n n)) w') :
    Oper.wp P ⟨dst, .makeSlice tt x y, t, pos, aft, g⟩ a w K Q := by
  obtain ⟨i, z, hi, hzz, hsz, hbs, hzs⟩ := he.inf
  have hzl : z.cells.toList = zl := by
    unfold Zc at hz
    simpa [hi, hzz] using hz
  have hb' : (i.bytes : Int) * (n : Int) ≤ 281474976710656 := by
    have e : ((bytes * n : Nat) : Int) = (bytes : Int) * (n : Int) := by simp
    rw [hbs, ← e]; omega
  have hr := run_make (P := P) w tt e i z he.und hi hzz .i64 .i64 n n (by omega) (Int.le_refl _) hb' (by omega)
  have hpos := he.pos
  have hm := made_flat (z := z.cells) n (by omega)
  have e1 : Obj.cells (madeCells z.cells ((n : Int).toNat * i.size)) e = row e (List.replicate n zl).flatten := by
    unfold row
    rw [← hzl, ← hm, Int.toNat_natCast, hsz, hzs]
  rw [e1] at hr
  refine wp_of_run (v := .slice (some ⟨w.heap.size, 0, none⟩) n n) (w' := w.alloc (row e (List.replicate n zl).flatten)) ?_ (h _ _ hs.size (hs.alloc _))
  simp only [Int.toNat_natCast] at hr
  simp [execOp, hx, hy, hr]

/-- []T{} -/
theorem run_bs0 {tt e size bytes : Nat} (he : El P tt e size bytes) (w : World) : (Instr.buildSlice tt 0 #[]).run P w = .ok (.slice (some ⟨w.heap.size, 0, none⟩) 0 0) (w.alloc (row e [])) := by
  obtain ⟨i, z, hi, hzz, hsz, hbs, hzs⟩ := he.inf
  simp [Instr.buildSlice, run_underlying he.und, sizeOf, typeInfo, hi, Instr.fill, newRow, row, Array.range_zero']
theorem St.bs0 (hs : St w0 D H w) {tt e size bytes : Nat} (he : El P tt e size bytes)
    (h : ∀ b w', w0.heap.size ≤ b → St w0 D ((b, row e []) :: H) w' → Sl e size (.slice (some ⟨b, 0, none⟩) 0 0) 0 [] [(b, row e [])] → K (a.put dst (.slice (some ⟨b, 0, none⟩) 0 0)) w') :
    Oper.wp P ⟨dst, .buildSlice tt 0 #[], t, pos, aft, g⟩ a w K Q := by
  refine wp_of_run (v := .slice (some ⟨w.heap.size, 0, none⟩) 0 0) (w' := w.alloc (row e [])) ?_ (h _ _ hs.size (hs.alloc _) (Sl.made (xs := []) (junk := []) (by simp) (by simp) (by simp [maxLen]) (Nat.le_refl _)))
  exact ex_buildSlice rfl (run_bs0 he w)
end

theorem el_of {t e size bytes : Nat} (h1 : Try.prog.underlying t = some (.slice e)) (h : (Try.prog.info? e).map (fun i => (i.zero.map (fun z => z.cells.size), i.size, i.bytes)) = some (some size, size, bytes)) (hp : 0 < size) : El Try.prog t e size bytes := ⟨h1, by
  obtain ⟨i, hi, hz⟩ := Option.map_eq_some_iff.1 h
  simp only [Prod.mk.injEq] at hz
  obtain ⟨z, hz0, hz1⟩ := Option.map_eq_some_iff.1 hz.1
  exact ⟨i, z, hi, hz0, hz.2.1, hz.2.2, hz1⟩, hp⟩
theorem el33 : El Try.prog 33 38 64 64 := el_of Try.underlying33 (by kernel_rfl) (by decide)
theorem el44 : El Try.prog 44 54 3 32 := el_of Try.underlying44 (by kernel_rfl) (by decide)
theorem el67 : El Try.prog 67 76 5 64 := el_of Try.underlying67 (by kernel_rfl) (by decide)
theorem el43 : El Try.prog 43 5 1 1 := el_of Try.underlying43 (by kernel_rfl) (by decide)
theorem el58 : El Try.prog 58 9 1 16 := el_of Try.underlying58 (by kernel_rfl) (by decide)
end Go.Proofs.Ytclingkhdmhhoaa
