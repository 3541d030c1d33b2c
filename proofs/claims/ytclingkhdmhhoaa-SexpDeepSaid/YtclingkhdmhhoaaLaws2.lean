/- Plain laws of the walk over the symbolic heap, more: slices that the call owns (append), copies, fields, places. No condition. -/
import Derived.Test.YtclingkhdmhhoaaLin
namespace Go.Proofs.Ytclingkhdmhhoaa
open Go.RowKit

/-- what the table says of an element type: its cells, its bytes, its zero's cells -/
structure El (P : Program) (t e size bytes : Nat) : Prop where
  und : P.underlying t = some (.slice e)
  inf : ∃ i z, P.info? e = some i ∧ i.zero = some z ∧ i.size = size ∧ i.bytes = bytes ∧ z.cells.size = size
  pos : 0 < size

/-- a slice that is owned: nil, or at the head of a block of its own: n elements, whose cells are xs -/
def Sl (e size : Nat) (v : Value) (n : Nat) (xs : List Value) (C : List (Nat × Obj)) : Prop :=
  xs.length = n * size ∧ ((v = .slice none 0 0 ∧ n = 0 ∧ C = []) ∨
    ∃ g cap junk, v = .slice (some ⟨g, 0, none⟩) n cap ∧ C = [(g, row e (xs ++ junk))] ∧ (xs ++ junk).length = cap * size ∧ cap ≤ maxLen ∧ n ≤ cap)

theorem Sl.nil (e size : Nat) : Sl e size (.slice none 0 0) 0 [] [] := ⟨by simp, .inl ⟨rfl, rfl, rfl⟩⟩
theorem Sl.made {e size g n cap : Nat} {xs junk : List Value} (h1 : xs.length = n * size) (h2 : (xs ++ junk).length = cap * size) (h3 : cap ≤ maxLen) (h4 : n ≤ cap) :
    Sl e size (.slice (some ⟨g, 0, none⟩) n cap) n xs [(g, row e (xs ++ junk))] := ⟨h1, .inr ⟨g, cap, junk, rfl, rfl, h2, h3, h4⟩⟩

section
variable {P : Program} {w0 w : World} {D : List Nat} {A B C H : List (Nat × Obj)}

/-- a block stands for another one -/
theorem St.swap {g : Nat} {o : Obj} (h : St w0 D (A ++ (g, o) :: B) w) (o' : Obj) : St w0 D (A ++ (w.heap.size, o') :: B) (w.alloc o') := by
  have h1 := h.alloc o'
  have hp : ((w.heap.size, o') :: (A ++ (g, o) :: B)).Perm ((g, o) :: (A ++ (w.heap.size, o') :: B)) := by
    have p1 : ((w.heap.size, o') :: (A ++ (g, o) :: B)).Perm ((w.heap.size, o') :: (g, o) :: (A ++ B)) := List.Perm.cons _ List.perm_middle
    have p2 : ((g, o) :: (A ++ (w.heap.size, o') :: B)).Perm ((g, o) :: (w.heap.size, o') :: (A ++ B)) := List.Perm.cons _ List.perm_middle
    exact p1.trans ((List.Perm.swap _ _ _).trans p2.symm)
  exact St.drop (A := [(g, o)]) (h1.perm hp)
/-- a new block, anywhere -/
theorem St.allocAt (h : St w0 D (A ++ B) w) (o : Obj) : St w0 D (A ++ (w.heap.size, o) :: B) (w.alloc o) :=
  (h.alloc o).perm List.perm_middle.symm

theorem run_append_sl {t ty e size bytes n m c : Nat} {v : Value} {xs news : List Value} {ad : Addr} (he : El P t e size bytes) (hs : St w0 D (A ++ C ++ B) w) (hsl : Sl e size v n xs C)
    (hl : news.length = m * size) (hnews : ∀ j u, news[j]? = some u → w.cell? (ad.add j) = some u) (h1 : ∀ u ∈ news, u.oneCell' = true) (h63 : n + m ≤ maxLen) (hby : (n + m) * bytes ≤ 140737488355328) :
    ∃ v' C' w', (Builtin.append_ #[t, t] ty #[v, .slice (some ad) m c]).run P w = .ok v' w' ∧ St w0 D (A ++ C' ++ B) w' ∧ Sl e size v' (n + m) (xs ++ news) C' := by
  obtain ⟨i, z, hi, hz, hsz, hbs, hzs⟩ := he.inf
  subst hsz
  subst hbs
  have hpos := he.pos
  obtain ⟨hxl, hv⟩ := hsl
  have hsmall : n + m ≤ 9223372036854775807 := by simp only [maxLen] at h63; omega
  have hlen : (xs ++ news).length = (n + m) * i.size := by rw [List.length_append, hxl, hl, Nat.add_mul]
  have zlen : ∀ cap, n + m ≤ cap → (xs ++ news ++ (Builtin.zeroCells z.cells (cap - (n + m))).toList).length = cap * i.size := by
    intro cap hc
    rw [List.length_append, hlen, Array.length_toList, size_zeroCells, hzs, ← Nat.add_mul]
    congr 1; omega
  rcases hv with ⟨rfl, rfl, rfl⟩ | ⟨g, cap, junk, rfl, rfl, hjl, hcm, hnc⟩
  · have hx : xs = [] := List.eq_nil_of_length_eq_zero (by simpa using hxl)
    subst hx
    by_cases hm : m = 0
    · subst hm
      have hn : news = [] := List.eq_nil_of_length_eq_zero (by simpa using hl)
      subst hn
      refine ⟨.slice none 0 0, [], w, ?_, hs, Sl.nil _ _⟩
      simp [Builtin.append_, run_underlying he.und, sizeOf, typeInfo, hi, Builtin.lenOf, Builtin.firstCells, loadCells, loadCellsFrom]
    · have hr := run_append_nil (P := P) w t ty e i z he.und hi hz ad m c news hl hnews (by omega) (by omega) (by have hb := hby; simp only [Nat.zero_add] at hb; omega)
      have hge := grownCap_ge w m 0 e
      have hcm := grownCap_le_maxLen w m 0 e (by simpa using h63)
      have hzl := zlen (grownCap w m 0 e) (by simpa using hge)
      simp only [Nat.zero_add, List.nil_append] at hzl hlen ⊢
      refine ⟨_, [(w.heap.size, row e (news ++ (Builtin.zeroCells z.cells (grownCap w m 0 e - m)).toList))], _, hr, ?_, Sl.made hlen hzl hcm hge⟩
      have h2 := St.allocAt (A := A) (B := B) (by simpa using (St.drew hs)) (row e (news ++ (Builtin.zeroCells z.cells (grownCap w m 0 e - m)).toList))
      have e1 : (Obj.cells (news.toArray ++ Builtin.zeroCells z.cells (grownCap w m 0 e - m)) e) = row e (news ++ (Builtin.zeroCells z.cells (grownCap w m 0 e - m)).toList) := by
        unfold row; congr 1; apply Array.ext'; simp
      rw [e1]
      simpa using h2
  · have hg : w.heap[g]? = some (row e (xs ++ junk)) := hs.has.known (g, row e (xs ++ junk)) (by simp)
    by_cases hroom : n + m ≤ cap
    · have hfit : n * i.size + news.length ≤ (xs ++ junk).length := by rw [hl, hjl, ← Nat.add_mul]; exact Nat.mul_le_mul_right _ hroom
      have hr := run_append_room (P := P) w t ty e i he.und hi g n cap (xs ++ junk).toArray hg ad m c news hl hnews h1 hroom (by simpa using hfit)
      refine ⟨_, [(g, row e (xs ++ news ++ junk.drop news.length))], _, hr, ?_, Sl.made hlen ?_ hcm hroom⟩
      · rw [setRow_setBlk hg]
        have h2 := St.set (A := A) (B := B) (b := g) (o := row e (xs ++ junk)) (by simpa using hs) (row e (xs ++ news ++ junk.drop news.length))
        have e1 : (Obj.cells ((xs ++ junk).toArray.toList.take (n * i.size) ++ news ++ (xs ++ junk).toArray.toList.drop (n * i.size + news.length)).toArray e (0, 0)) = row e (xs ++ news ++ junk.drop news.length) := by
          unfold row
          rw [← hxl]
          simp [List.drop_append]
        rw [e1]
        simpa using h2
      · rw [List.length_append] at hjl hfit
        simp only [List.length_append, List.length_drop]
        omega
    · have holds : ∀ j u, xs[j]? = some u → w.cell? ((⟨g, 0, none⟩ : Addr).add j) = some u := by
        intro j u hu
        have hadd : (⟨g, 0, none⟩ : Addr).add j = ⟨g, j, none⟩ := by unfold Addr.add; split <;> simp_all
        rw [hadd, row_cell hg]
        have hj : j < xs.length := (List.getElem?_eq_some_iff.1 hu).1
        rw [List.getElem?_append_left hj]; exact hu
      have hr := run_append_grow (P := P) w t ty e i z he.und hi hz ⟨g, 0, none⟩ n cap xs hxl holds ad m c news hl hnews (by omega) (by omega) (growslice_fits (by omega) hby)
      have hge := grownCap_ge w (n + m) cap e
      have hcm' := grownCap_le_maxLen w (n + m) cap e h63
      refine ⟨_, [(w.heap.size, row e (xs ++ news ++ (Builtin.zeroCells z.cells (grownCap w (n + m) cap e - (n + m))).toList))], _, hr, ?_, Sl.made hlen (zlen _ hge) hcm' hge⟩
      have h2 := St.swap (A := A) (B := B) (g := g) (o := row e (xs ++ junk)) (by simpa using St.drew hs) (row e (xs ++ news ++ (Builtin.zeroCells z.cells (grownCap w (n + m) cap e - (n + m))).toList))
      have e1 : (Obj.cells (xs.toArray ++ news.toArray ++ Builtin.zeroCells z.cells (grownCap w (n + m) cap e - (n + m))) e) = row e (xs ++ news ++ (Builtin.zeroCells z.cells (grownCap w (n + m) cap e - (n + m))).toList) := by
        unfold row; congr 1; apply Array.ext'; simp
      rw [e1]
      simpa using h2
end

section
variable {P : Program} {w0 w : World} {D : List Nat} {H : List (Nat × Obj)} {a : Act} {K : Act → World → Prop} {Q : Exit → Act → World → Prop}
  {dst : Option Tmp} {t : TypeId} {pos : String} {aft : Array Edge} {g : Option (Nat × Bool)}

theorem ex_app {ρ : Operand → Value} {x y : Operand} {tt : TypeId} {v u v' : Value} {w' : World} (hx : ρ x = v) (hy : ρ y = u) (h : (Builtin.append_ #[tt, tt] t #[v, u]).run P w = .ok v' w') :
    (execOp ρ ⟨dst, .call { callee := .builtin .append, args := #[x, y], argTypes := #[tt, tt] }, t, pos, aft, g⟩).run P w = .ok (.value v') w' := by
  simp [execOp, resolve, invoke, builtin, hx, hy, h]

/-- append to a slice that is owned; A: the blocks ahead of its own -/
theorem St.app (A B : List (Nat × Obj)) {C : List (Nat × Obj)} (hs : St w0 D (A ++ C ++ B) w) {tt e size bytes n m c : Nat} {v : Value} {xs news : List Value} {ad : Addr} (he : El P tt e size bytes) (hsl : Sl e size v n xs C)
    {x y : Operand} (hx : a.eval x = v) (hy : a.eval y = .slice (some ad) m c)
    (hl : news.length = m * size) (hnews : ∀ j u, news[j]? = some u → w.cell? (ad.add j) = some u) (h1 : ∀ u ∈ news, u.oneCell' = true) (h63 : n + m ≤ maxLen) (hby : (n + m) * bytes ≤ 140737488355328)
    (h : ∀ v' C' w', St w0 D (A ++ C' ++ B) w' → Sl e size v' (n + m) (xs ++ news) C' → K (a.put dst v') w') :
    Oper.wp P ⟨dst, .call { callee := .builtin .append, args := #[x, y], argTypes := #[tt, tt] }, t, pos, aft, g⟩ a w K Q := by
  obtain ⟨v', C', w', hr, h2, h3⟩ := run_append_sl (ty := t) (c := c) he hs hsl hl hnews h1 h63 hby
  exact wp_of_run (ex_app hx hy hr) (h _ _ _ h2 h3)
end

end Go.Proofs.Ytclingkhdmhhoaa
