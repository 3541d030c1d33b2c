/- Plain lemmas: a symbolic heap (a list of blocks with what they hold) over the model's worlds, and the walk's laws on loads, stores and new blocks in its words. No condition. -/
import Derived.Test.YtclingkhdmhhoaaRows
import Derived.WalkKit
import Derived.WalkSpells
import Derived.WalkLawsBesides
namespace Go.Proofs.Ytclingkhdmhhoaa
open Go.RowKit

theorem drewN_drew (w : World) (n : Nat) : (w.drewN n).drew = w.drewN (n + 1) := rfl
theorem hid {p : Prop} (h : p) : Hid p := h
/-- a row of cells that nothing shares -/
def row (T : TypeId) (l : List Value) : Obj := .cells l.toArray T (0, 0)

/-- what is known of a world: these blocks hold this, no block stands twice -/
structure Has (w : World) (H : List (Nat × Obj)) : Prop where
  known : ∀ p ∈ H, w.heap[p.1]? = some p.2
  nodup : (H.map (·.1)).Nodup

/-- w comes of w0: the blocks of H are known, each of them is one of D or new; what isn't in D and was there is as it was -/
structure St (w0 : World) (D : List Nat) (H : List (Nat × Obj)) (w : World) : Prop where
  has : Has w H
  os : w.os = w0.os
  tape : w.tape = w0.tape
  output : w.output = w0.output
  size : w0.heap.size ≤ w.heap.size
  own : ∀ p ∈ H, p.1 ∈ D ∨ w0.heap.size ≤ p.1
  frame : ∀ b, b < w0.heap.size → b ∉ D → w.heap[b]? = w0.heap[b]?

abbrev keys (H : List (Nat × Obj)) : List Nat := H.map (·.1)

theorem Has.nil (w : World) : Has w [] := ⟨by simp, by simp⟩
theorem Has.lt {w : World} {H : List (Nat × Obj)} (h : Has w H) {p : Nat × Obj} (hp : p ∈ H) : p.1 < w.heap.size :=
  (Array.getElem?_eq_some_iff.1 (h.known p hp)).1
theorem Has.left {w : World} {A B : List (Nat × Obj)} (h : Has w (A ++ B)) : Has w A :=
  ⟨fun p hp => h.known p (by simp [hp]), by have := h.nodup; rw [List.map_append, List.nodup_append] at this; exact this.1⟩
theorem Has.right {w : World} {A B : List (Nat × Obj)} (h : Has w (A ++ B)) : Has w B :=
  ⟨fun p hp => h.known p (by simp [hp]), by have := h.nodup; rw [List.map_append, List.nodup_append] at this; exact this.2.1⟩
theorem Has.perm {w : World} {A B : List (Nat × Obj)} (h : Has w A) (hp : A.Perm B) : Has w B :=
  ⟨fun p hq => h.known p (hp.mem_iff.2 hq), (hp.map _).nodup_iff.1 h.nodup⟩

theorem St.start {w : World} {H : List (Nat × Obj)} (h : Has w H) : St w (keys H) H w :=
  ⟨h, rfl, rfl, rfl, Nat.le_refl _, fun p hp => .inl (List.mem_map.2 ⟨p, hp, rfl⟩), fun _ _ _ => rfl⟩
theorem St.nothing (w : World) : St w [] [] w := St.start (Has.nil w)

section
variable {w0 w : World} {D : List Nat} {H : List (Nat × Obj)}

theorem St.perm {H' : List (Nat × Obj)} (h : St w0 D H w) (hp : H.Perm H') : St w0 D H' w :=
  ⟨h.has.perm hp, h.os, h.tape, h.output, h.size, fun p hq => h.own p (hp.mem_iff.2 hq), h.frame⟩
theorem St.drop {A B : List (Nat × Obj)} (h : St w0 D (A ++ B) w) : St w0 D B w :=
  ⟨h.has.right, h.os, h.tape, h.output, h.size, fun p hq => h.own p (by simp [hq]), h.frame⟩
theorem St.keep {A B : List (Nat × Obj)} (h : St w0 D (A ++ B) w) : St w0 D A w :=
  ⟨h.has.left, h.os, h.tape, h.output, h.size, fun p hq => h.own p (by simp [hq]), h.frame⟩
theorem St.dropMid {A C B : List (Nat × Obj)} (h : St w0 D (A ++ C ++ B) w) : St w0 D (A ++ B) w := by
  refine St.drop (A := C) (h.perm ?_)
  rw [List.append_assoc]
  exact (List.perm_append_comm_assoc A C B)
theorem St.drew (h : St w0 D H w) : St w0 D H w.drew := ⟨⟨h.has.known, h.has.nodup⟩, h.os, h.tape, h.output, h.size, h.own, h.frame⟩
theorem St.drewN (h : St w0 D H w) (n : Nat) : St w0 D H (w.drewN n) := ⟨⟨h.has.known, h.has.nodup⟩, h.os, h.tape, h.output, h.size, h.own, h.frame⟩
theorem St.below (h : St w0 [] H w) : Below w0.heap.size w0 w := ⟨h.os, h.tape, h.output, h.size, fun k hk => h.frame k hk (by simp)⟩

/-- a new block -/
theorem St.alloc (h : St w0 D H w) (o : Obj) : St w0 D ((w.heap.size, o) :: H) (w.alloc o) := by
  refine ⟨⟨?_, ?_⟩, h.os, h.tape, h.output, by simp; have := h.size; omega, ?_, ?_⟩
  · intro p hp
    rcases List.mem_cons.1 hp with rfl | hp
    · exact heap_alloc_new w o
    · rw [heap_alloc_old w o (h.has.lt hp)]; exact h.has.known p hp
  · simp only [List.map_cons, List.nodup_cons]
    refine ⟨fun hm => ?_, h.has.nodup⟩
    obtain ⟨p, hp, e⟩ := List.mem_map.1 hm
    have := h.has.lt hp
    omega
  · intro p hp
    rcases List.mem_cons.1 hp with rfl | hp
    · exact .inr h.size
    · exact h.own p hp
  · intro b hb hd
    rw [heap_alloc_old w o (by have := h.size; omega)]
    exact h.frame b hb hd

/-- a block is written -/
def setBlk (w : World) (b : Nat) (o : Obj) : World := { w with heap := w.heap.setIfInBounds b o }
theorem setBlk_same {w : World} {b : Nat} {o o' : Obj} (h : w.heap[b]? = some o) : (setBlk w b o').heap[b]? = some o' := by
  have : b < w.heap.size := (Array.getElem?_eq_some_iff.1 h).1
  simp [setBlk, this]
theorem setBlk_other {w : World} {b k : Nat} {o' : Obj} (h : k ≠ b) : (setBlk w b o').heap[k]? = w.heap[k]? := by
  simp [setBlk, Array.getElem?_setIfInBounds_ne (Ne.symm h)]
theorem setRow_setBlk {w : World} {b : Nat} {cs cs' : Array Value} {T : TypeId} {fr : Nat × Nat} (h : w.heap[b]? = some (.cells cs T fr)) :
    w.setRow b cs' = setBlk w b (.cells cs' T fr) := by
  have hlt : b < w.heap.size := (Array.getElem?_eq_some_iff.1 h).1
  unfold World.setRow setBlk
  congr 1
  apply Array.ext_getElem?
  intro k
  by_cases hk : k = b
  · subst hk
    rw [Array.getElem?_modify, h]
    simp [hlt]
  · rw [Array.getElem?_modify, if_neg (Ne.symm hk), Array.getElem?_setIfInBounds_ne (Ne.symm hk)]

theorem St.set {A B : List (Nat × Obj)} {b : Nat} {o : Obj} (h : St w0 D (A ++ (b, o) :: B) w) (o' : Obj) : St w0 D (A ++ (b, o') :: B) (setBlk w b o') := by
  have hb : w.heap[b]? = some o := h.has.known (b, o) (by simp)
  have hn := h.has.nodup
  simp only [List.map_append, List.map_cons, List.nodup_append, List.nodup_cons] at hn
  obtain ⟨_, ⟨hB, _⟩, hAB⟩ := hn
  refine ⟨⟨?_, ?_⟩, h.os, h.tape, h.output, by simp [setBlk]; exact h.size, ?_, ?_⟩
  · intro p hp
    rcases List.mem_append.1 hp with hp | hp
    · rw [setBlk_other (by
        intro e
        exact hAB p.1 (List.mem_map.2 ⟨p, hp, rfl⟩) b (by simp) e)]
      exact h.has.known p (by simp [hp])
    · rcases List.mem_cons.1 hp with rfl | hp
      · exact setBlk_same hb
      · rw [setBlk_other (by
          intro e
          exact hB (List.mem_map.2 ⟨p, hp, e⟩))]
        exact h.has.known p (by simp [hp])
  · have := h.has.nodup
    simpa using this
  · intro p hp
    have : p.1 ∈ keys (A ++ (b, o) :: B) := by
      have h1 : p.1 ∈ keys (A ++ (b, o') :: B) := List.mem_map.2 ⟨p, hp, rfl⟩
      simpa [keys] using h1
    obtain ⟨q, hq, e⟩ := List.mem_map.1 this
    rw [← e]; exact h.own q hq
  · intro k hk hd
    rw [setBlk_other]
    · exact h.frame k hk hd
    · rintro rfl
      rcases h.own (k, o) (by simp) with h1 | h1
      · exact hd h1
      · simp only at h1; omega

theorem St.quiet {w' : World} (h : St w0 D H w) (hq : ∃ n, w' = w.drewN n) : St w0 D H w' := by
  obtain ⟨n, rfl⟩ := hq; exact h.drewN n
theorem St.mid {A B : List (Nat × Obj)} {b : Nat} {o : Obj} (h : St w0 D (A ++ (b, o) :: B) w) : w.heap[b]? = some o := h.has.known (b, o) (by simp)
theorem St.at (hs : St w0 D H w) (k : Nat) {b : Nat} {o : Obj} (hk : H[k]? = some (b, o)) : w.heap[b]? = some o :=
  hs.has.known (b, o) (List.mem_of_getElem? hk)

/-- a block is written, by its place in the list -/
theorem St.setAt {k b : Nat} {o : Obj} (h : St w0 D H w) (hk : H[k]? = some (b, o)) (o' : Obj) : St w0 D (H.set k (b, o')) (setBlk w b o') := by
  have hlt : k < H.length := (List.getElem?_eq_some_iff.1 hk).1
  have hv : H[k] = (b, o) := (List.getElem?_eq_some_iff.1 hk).2
  have e : H = H.take k ++ (b, o) :: H.drop (k + 1) := by rw [← hv, ← List.drop_eq_getElem_cons hlt, List.take_append_drop]
  have e' : H.set k (b, o') = H.take k ++ (b, o') :: H.drop (k + 1) := List.set_eq_take_append_cons_drop.trans (by rw [if_pos hlt])
  rw [e']; rw [e] at h
  have h2 := h.set o'
  simpa using h2

/-- a call that knew the blocks H alone; F stands aside -/
theorem St.call {A H' B : List (Nat × Obj)} {w' : World} (h : St w0 D (A ++ H ++ B) w) (hc : St w (keys H) H' w') : St w0 D (A ++ H' ++ B) w' := by
  have hn := h.has.nodup
  have hlt := fun p hp => h.has.lt (p := p) hp
  simp only [List.map_append, List.nodup_append] at hn
  obtain ⟨⟨hA, hH, hAH⟩, hB, hAHB⟩ := hn
  have hother : ∀ p ∈ A ++ B, w'.heap[p.1]? = w.heap[p.1]? := by
    intro p hp
    refine hc.frame p.1 (hlt p (by rcases List.mem_append.1 hp with hp | hp <;> simp [hp])) ?_
    intro hm
    rcases List.mem_append.1 hp with hp | hp
    · exact hAH p.1 (List.mem_map.2 ⟨p, hp, rfl⟩) p.1 hm rfl
    · exact hAHB p.1 (by simp only [List.mem_append]; exact .inr hm) p.1 (List.mem_map.2 ⟨p, hp, rfl⟩) rfl
  have hnot : ∀ p ∈ H', ∀ q ∈ A ++ B, p.1 ≠ q.1 := by
    intro p hp q hq e
    have hql := hlt q (by rcases List.mem_append.1 hq with hq | hq <;> simp [hq])
    rcases hc.own p hp with h1 | h1
    · rcases List.mem_append.1 hq with hq | hq
      · exact hAH q.1 (List.mem_map.2 ⟨q, hq, rfl⟩) p.1 h1 e.symm
      · exact hAHB p.1 (by simp only [List.mem_append]; exact .inr h1) q.1 (List.mem_map.2 ⟨q, hq, rfl⟩) e
    · omega
  refine ⟨⟨?_, ?_⟩, hc.os.trans h.os, hc.tape.trans h.tape, hc.output.trans h.output, Nat.le_trans h.size hc.size, ?_, ?_⟩
  · intro p hp
    simp only [List.mem_append] at hp
    rcases hp with (hp | hp) | hp
    · rw [hother p (by simp [hp])]; exact h.has.known p (by simp [hp])
    · exact hc.has.known p hp
    · rw [hother p (by simp [hp])]; exact h.has.known p (by simp [hp])
  · simp only [List.map_append, List.nodup_append]
    refine ⟨⟨hA, hc.has.nodup, ?_⟩, hB, ?_⟩
    · intro x hx y hy e
      obtain ⟨p, hp, rfl⟩ := List.mem_map.1 hx
      obtain ⟨q, hq, rfl⟩ := List.mem_map.1 hy
      exact hnot q hq p (by simp [hp]) e.symm
    · intro x hx y hy e
      obtain ⟨q, hq, rfl⟩ := List.mem_map.1 hy
      rcases List.mem_append.1 hx with hx | hx
      · exact hAHB x (by simp only [List.mem_append]; exact .inl hx) q.1 hy e
      · obtain ⟨p, hp, rfl⟩ := List.mem_map.1 hx
        exact hnot p hp q (by simp [hq]) e
  · intro p hp
    simp only [List.mem_append] at hp
    rcases hp with (hp | hp) | hp
    · exact h.own p (by simp [hp])
    · rcases hc.own p hp with h1 | h1
      · obtain ⟨q, hq, e⟩ := List.mem_map.1 h1
        rw [← e]; exact h.own q (by simp [hq])
      · exact .inr (Nat.le_trans h.size h1)
    · exact h.own p (by simp [hp])
  · intro b hb hd
    rw [hc.frame b (Nat.lt_of_lt_of_le hb h.size) ?_]
    · exact h.frame b hb hd
    · intro hm
      obtain ⟨q, hq, rfl⟩ := List.mem_map.1 hm
      rcases h.own q (by simp [hq]) with h1 | h1
      · exact hd h1
      · omega

theorem St.trans {H' : List (Nat × Obj)} {w' : World} (h : St w0 D H w) (hc : St w (keys H) H' w') : St w0 D H' w' := by
  have := St.call (A := []) (B := []) (by simpa using h) hc
  simpa using this
theorem St.callR {A H' : List (Nat × Obj)} {w' : World} (h : St w0 D (A ++ H) w) (hc : St w (keys H) H' w') : St w0 D (A ++ H') w' := by
  have := St.call (A := A) (B := []) (by simpa using h) hc
  simpa using this
theorem St.callL {B H' : List (Nat × Obj)} {w' : World} (h : St w0 D (H ++ B) w) (hc : St w (keys H) H' w') : St w0 D (H' ++ B) w' := by
  have := St.call (A := []) (B := B) (by simpa using h) hc
  simpa using this
theorem St.out (h : St w0 [] H w) {p : Addr} {v : Value} (hv : w0.cell? p = some v) : w.cell? p = some v := by
  have hlt : p.block < w0.heap.size := World.block_lt_of_cell? w0 p hv
  rw [World.cell?_of_block (h.frame p.block hlt (by simp))]; exact hv
/-- what was there, and isn't ours, reads as it did -/
theorem St.cellOut (h : St w0 D H w) {p : Addr} (hp : p.block < w0.heap.size) (hd : p.block ∉ D) : w.cell? p = w0.cell? p := World.cell?_of_block (h.frame p.block hp hd)
end
#print axioms St.call
end Go.Proofs.Ytclingkhdmhhoaa
