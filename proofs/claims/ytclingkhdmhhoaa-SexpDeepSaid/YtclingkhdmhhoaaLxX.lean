/- Texts that are made by append. No condition. -/
import Derived.Test.YtclingkhdmhhoaaLxW
namespace Go.Proofs.Ytclingkhdmhhoaa
open Go.RowKit
set_option linter.unusedSimpArgs false
set_option linter.unusedVariables false

/-- a text of our own, or a constant one -/
def Mid (v : Value) (l : List UInt8) (C : List (Nat × Obj)) : Prop :=
  Sl 5 1 v l.length (sv l) C ∨ ∃ g, v = .slice (some ⟨g, 0, none⟩) l.length l.length ∧ C = [(g, fz (sv l))] ∧ l.length ≤ maxLen
theorem Mid.val {v : Value} {l : List UInt8} {C : List (Nat × Obj)} (h : Mid v l C) : ∃ A c, v = .slice A l.length c := by
  rcases h with h | ⟨g, rfl, _⟩
  · rcases h.2 with ⟨rfl, h0, _⟩ | ⟨g, cap, junk, rfl, _⟩
    · exact ⟨none, 0, by rw [h0]⟩
    · exact ⟨_, _, rfl⟩
  · exact ⟨_, _, rfl⟩
theorem Mid.txt {w0 w : World} {D : List Nat} {H C : List (Nat × Obj)} {v : Value} {l : List UInt8} (h : Mid v l C) (hs : St w0 D H w) (hC : ∀ p ∈ C, p ∈ H) : Txt w [] v l := by
  rcases h with h | ⟨g, rfl, rfl, hm⟩
  · rcases h.2 with ⟨rfl, h0, _⟩ | ⟨g, cap, junk, rfl, rfl, h1, h2, h3⟩
    · have : l = [] := List.eq_nil_of_length_eq_zero h0
      subst this
      exact ⟨none, 0, rfl, Nat.le_refl _, by simp [maxLen], .inl rfl⟩
    · have hg := hs.has.known (g, row 5 (sv l ++ junk)) (hC _ (by simp))
      refine ⟨_, _, rfl, h3, h2, .inr ⟨g, 0, rfl, (Array.getElem?_eq_some_iff.1 hg).1, by simp, fun i x hx => ?_⟩⟩
      have hi := (List.getElem?_eq_some_iff.1 hx).1
      rw [row_cell hg, Nat.zero_add, List.getElem?_append_left (by rw [length_sv]; exact hi)]
      simp [sv, hx]
  · exact txt_fz (hs.has.known (g, fz (sv l)) (hC _ (by simp))) (Nat.le_refl _) hm

set_option maxRecDepth 8000 in
theorem run_append_mid {w0 w : World} {D : List Nat} {A B C : List (Nat × Obj)} {m c : Nat} {v : Value} {l news : List UInt8} {ad : Addr} (ty : TypeId) (hs : St w0 D (A ++ C ++ B) w) (hm : Mid v l C) (hl : news.length = m) (hm0 : 0 < m)
    (hnews : ∀ j u, news[j]? = some u → w.cell? (ad.add j) = some (u8 u)) (h63 : l.length + m ≤ 1073741824) :
    ∃ v' C' w', (Builtin.append_ #[43, 43] ty #[v, .slice (some ad) m c]).run Try.prog w = .ok v' w' ∧ St w0 D (A ++ C' ++ B) w' ∧ Sl 5 1 v' (l ++ news).length (sv (l ++ news)) C' := by
  have hn : ∀ j u, (sv news)[j]? = some u → w.cell? (ad.add j) = some u := by
    intro j u hu
    simp only [sv, List.getElem?_map, Option.map_eq_some_iff] at hu
    obtain ⟨x, hx, rfl⟩ := hu
    exact hnews j x hx
  have e1 : (l ++ news).length = l.length + m := by simp [hl]
  have e2 : sv (l ++ news) = sv l ++ sv news := by simp [sv]
  rw [e1, e2]
  rcases hm with hsl | ⟨g, rfl, rfl, hmx⟩
  · exact run_append_sl (ty := ty) (c := c) el43 hs hsl (by simp [length_sv, hl]) hn (one_sv _) (by unfold maxLen; omega) (by omega)
  · obtain ⟨i, z, hi, hz, hsz, hbs, hzs⟩ := el43.inf
    have hg : w.heap[g]? = some (fz (sv l)) := hs.has.known (g, fz (sv l)) (by simp)
    have holds : ∀ j u, (sv l)[j]? = some u → w.cell? ((⟨g, 0, none⟩ : Addr).add j) = some u := by
      intro j u hu
      rw [add_none, fz_cell hg, Nat.zero_add]; exact hu
    have hr := run_append_grow (P := Try.prog) w 43 ty 5 i z el43.und hi hz ⟨g, 0, none⟩ l.length l.length (sv l) (by rw [length_sv, hsz, Nat.mul_one]) holds ad m c (sv news) (by rw [length_sv, hsz, Nat.mul_one, hl]) hn (by omega) (by omega) (growslice_fits (by omega) (by rw [hbs]; omega))
    have hge := grownCap_ge w (l.length + m) l.length 5
    have hcm' := grownCap_le_maxLen w (l.length + m) l.length 5 (by unfold maxLen; omega)
    have hzl : (sv l ++ sv news ++ (Builtin.zeroCells z.cells (grownCap w (l.length + m) l.length 5 - (l.length + m))).toList).length = grownCap w (l.length + m) l.length 5 * 1 := by
      simp only [List.length_append, length_sv, Array.length_toList, size_zeroCells, hzs]; omega
    refine ⟨_, [(w.heap.size, row 5 (sv l ++ sv news ++ (Builtin.zeroCells z.cells (grownCap w (l.length + m) l.length 5 - (l.length + m))).toList))], _, hr, ?_, Sl.made (by simp [length_sv, hl]) hzl hcm' hge⟩
    have h2 := St.swap (A := A) (B := B) (g := g) (o := fz (sv l)) (by simpa using St.drew hs) (row 5 (sv l ++ sv news ++ (Builtin.zeroCells z.cells (grownCap w (l.length + m) l.length 5 - (l.length + m))).toList))
    have e1 : (Obj.cells ((sv l).toArray ++ (sv news).toArray ++ Builtin.zeroCells z.cells (grownCap w (l.length + m) l.length 5 - (l.length + m))) 5) = row 5 (sv l ++ sv news ++ (Builtin.zeroCells z.cells (grownCap w (l.length + m) l.length 5 - (l.length + m))).toList) := by
      unfold row; congr 1; apply Array.ext'; simp
    rw [e1]
    simpa using h2
/-- append of a text that is read -/
theorem run_append_txt {w0 w : World} {D D' : List Nat} {A B C : List (Nat × Obj)} {v u : Value} {l news : List UInt8} (ty : TypeId) (hs : St w0 D (A ++ C ++ B) w) (hm : Sl 5 1 v l.length (sv l) C) (hT : Txt w D' u news) (h63 : l.length + news.length ≤ 1073741824) :
    ∃ v' C' w', (Builtin.append_ #[43, 43] ty #[v, u]).run Try.prog w = .ok v' w' ∧ St w0 D (A ++ C' ++ B) w' ∧ Sl 5 1 v' (l ++ news).length (sv (l ++ news)) C' := by
  obtain ⟨ua, uc, rfl, h2, h3, h4⟩ := hT
  by_cases h0 : news = []
  · subst h0
    rw [List.append_nil]
    cases ua with
    | none =>
      refine ⟨v, C, w, ?_, hs, hm⟩
      obtain ⟨i, z, hi, hz, hsz, hbs, hzs⟩ := el43.inf
      rcases hm.2 with ⟨rfl, e0, _⟩ | ⟨g, cap, junk, rfl, rfl, e1, e2, e3⟩
      · simp [Builtin.append_, run_underlying el43.und, sizeOf, typeInfo, hi, Builtin.lenOf, Builtin.firstCells, loadCells, loadCellsFrom]
      · simp [Builtin.append_, run_underlying el43.und, sizeOf, typeInfo, hi, Builtin.lenOf, Builtin.firstCells, loadCells, loadCellsFrom, e3, storeCells]
    | some ad =>
      have := run_append_sl (P := Try.prog) (ty := ty) (c := uc) (m := 0) (ad := ad) (news := []) el43 hs hm rfl (fun j u h => by simp at h) (by simp) (by unfold maxLen; omega) (by omega)
      simpa using this
  · rcases h4 with h4 | ⟨b, o, rfl, hb, hd, hc⟩
    · exact absurd h4 h0
    · have hpos : 0 < news.length := List.length_pos_iff.2 h0
      exact run_append_mid ty hs (.inl hm) rfl hpos (fun j x hx => by rw [add_none]; exact hc j x hx) h63
section
variable {w0 w : World} {D : List Nat} {a : Act} {K : Act → World → Prop} {Q : Exit → Act → World → Prop} {dst : Option Tmp} {t : TypeId} {pos : String} {aft : Array Edge} {g : Option (Nat × Bool)}
theorem St.appM (A B : List (Nat × Obj)) {C : List (Nat × Obj)} (hs : St w0 D (A ++ C ++ B) w) {m c : Nat} {v : Value} {l news : List UInt8} {ad : Addr} (hm : Mid v l C) {x y : Operand} (hx : a.eval x = v) (hy : a.eval y = .slice (some ad) m c) (hl : news.length = m) (hm0 : 0 < m)
    (hnews : ∀ j u, news[j]? = some u → w.cell? (ad.add j) = some (u8 u)) (h63 : l.length + m ≤ 1073741824)
    (h : ∀ v' C' w', St w0 D (A ++ C' ++ B) w' → Sl 5 1 v' (l ++ news).length (sv (l ++ news)) C' → K (a.put dst v') w') :
    Oper.wp Try.prog ⟨dst, .call { callee := .builtin .append, args := #[x, y], argTypes := #[43, 43] }, t, pos, aft, g⟩ a w K Q := by
  obtain ⟨v', C', w', hr, h2, h3⟩ := run_append_mid t (c := c) hs hm hl hm0 hnews h63
  exact wp_of_run (ex_app hx hy hr) (h _ _ _ h2 h3)
theorem St.appT (A B : List (Nat × Obj)) {C : List (Nat × Obj)} {D' : List Nat} (hs : St w0 D (A ++ C ++ B) w) {v u : Value} {l news : List UInt8} (hm : Sl 5 1 v l.length (sv l) C) (hT : Txt w D' u news) {x y : Operand} (hx : a.eval x = v) (hy : a.eval y = u) (h63 : l.length + news.length ≤ 1073741824)
    (h : ∀ v' C' w', St w0 D (A ++ C' ++ B) w' → Sl 5 1 v' (l ++ news).length (sv (l ++ news)) C' → K (a.put dst v') w') :
    Oper.wp Try.prog ⟨dst, .call { callee := .builtin .append, args := #[x, y], argTypes := #[43, 43] }, t, pos, aft, g⟩ a w K Q := by
  obtain ⟨v', C', w', hr, h2, h3⟩ := run_append_txt t hs hm hT h63
  exact wp_of_run (ex_app hx hy hr) (h _ _ _ h2 h3)
end
end Go.Proofs.Ytclingkhdmhhoaa
