/- SnapLasts: the walk of the law. No condition. -/
import Derived.Test.YtclingkhdmhhoaaSnK
namespace Go.Proofs.Ytclingkhdmhhoaa
open Go.RowKit
set_option linter.unusedSimpArgs false
set_option linter.unusedVariables false

/-- lv is a row of texts -/
def Txts (w : World) (lv : Value) (Ls : List (List UInt8)) : Prop := ∃ (A : Option Addr) (c : Nat) (vs : List Value), lv = .slice A Ls.length c ∧ Ls.length ≤ c ∧ c ≤ maxLen ∧ vs.length = Ls.length ∧
  (Ls = [] ∨ ∃ b o, A = some ⟨b, o, none⟩ ∧ b < w.heap.size ∧ ∀ (i : Nat) v, vs[i]? = some v → w.cell? ⟨b, o + i, none⟩ = some v) ∧ ∀ (i : Nat) v l, vs[i]? = some v → Ls[i]? = some l → Txt w [] v l
theorem txts_at {w0 w : World} {H : List (Nat × Obj)} {A : Option Addr} {c : Nat} {Ls : List (List UInt8)} (h : Txts w0 (.slice A Ls.length c) Ls) (hs : St w0 [] H w) {j : Nat} {l : List UInt8} (hj : Ls[j]? = some l) :
    ∃ b o A' c', A = some ⟨b, o, none⟩ ∧ w.cell? ⟨b, o + j, none⟩ = some (.slice A' l.length c') ∧ Txt w0 [] (.slice A' l.length c') l := by
  obtain ⟨A0, c0, vs, e, h1, h2, h3, h4, h5⟩ := h
  cases e
  rcases h4 with h4 | ⟨b, o, rfl, hb, h4⟩
  · subst h4; simp at hj
  · have hjl : j < vs.length := by rw [h3]; exact (List.getElem?_eq_some_iff.1 hj).1
    have hv : vs[j]? = some vs[j] := List.getElem?_eq_getElem hjl
    have hT := h5 j _ l hv hj
    have hc := h4 j _ hv
    obtain ⟨A', c', e⟩ := hT.bd
    rw [e] at hT hc
    exact ⟨b, o, A', c', rfl, hs.out hc, hT⟩

set_option maxHeartbeats 1000000 in
set_option maxRecDepth 4000 in
theorem snap_long {w0 : World} {la ka : Option Addr} {m p lc kc : Nat} {size stop torn tear : Int} (h : size < 4 ∨ 60 < size ∨ m < 1 ∨ 20 < m ∨ 100 < p) :
    Calls Try.prog 8 #[.int .i64 size, .slice la m lc, .int .i64 stop, .slice ka p kc, .int .i64 torn, .int .i64 tear] w0 fun e w' => e = .returned (.bool true) ∧ Below w0.heap.size w0 w' := by
  rcases Int.lt_or_le size 4 with h1 | h1
  · have q1 : decide (size < 4) = true := by simp; omega
    clear h h1
    go_enter Try.func8, Try.ntmps8
    go_wp2_with (go_at_call 27; refine (speaks6 _).mono ?_; rintro e w ⟨rfl, hs⟩)
    go_ret
    exact ⟨rfl, hs.below⟩
  · have q1 : decide (size < 4) = false := by simp; omega
    rcases Int.lt_or_le 60 size with h2 | h2
    · have q2 : decide (60 < size) = true := by simp; omega
      clear h h1 h2
      go_enter Try.func8, Try.ntmps8
      go_wp2_with (go_at_call 27; refine (speaks6 _).mono ?_; rintro e w ⟨rfl, hs⟩)
      go_ret
      exact ⟨rfl, hs.below⟩
    · have q2 : decide (60 < size) = false := by simp; omega
      rcases Nat.lt_or_ge m 1 with h3 | h3
      · have q3 : decide ((m : Int) < 1) = true := by simp; omega
        clear h h1 h2 h3
        go_enter Try.func8, Try.ntmps8
        go_wp2_with (go_at_call 27; refine (speaks6 _).mono ?_; rintro e w ⟨rfl, hs⟩)
        go_ret
        exact ⟨rfl, hs.below⟩
      · have q3 : decide ((m : Int) < 1) = false := by simp; omega
        rcases Nat.lt_or_ge 20 m with h4 | h4
        · have q4 : decide ((20 : Int) < (m : Int)) = true := by simp; omega
          clear h h1 h2 h3 h4
          go_enter Try.func8, Try.ntmps8
          go_wp2_with (go_at_call 27; refine (speaks6 _).mono ?_; rintro e w ⟨rfl, hs⟩)
          go_ret
          exact ⟨rfl, hs.below⟩
        · have q4 : decide ((20 : Int) < (m : Int)) = false := by simp; omega
          have q5 : decide ((100 : Int) < (p : Int)) = true := by simp; omega
          clear h h1 h2 h3 h4
          go_enter Try.func8, Try.ntmps8
          go_wp2_with (go_at_call 27; refine (speaks6 _).mono ?_; rintro e w ⟨rfl, hs⟩)
          go_ret
          exact ⟨rfl, hs.below⟩
end Go.Proofs.Ytclingkhdmhhoaa
